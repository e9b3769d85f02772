/- Lemmas and contracts that the later texts use: TimersRPopped, TimersRPop, TimersSorted, TimersRUntil, TimersHelp, TimersAlive, TimersTells, TimersLawKit, joined into one text. The conditions of each stand at its head. -/
import Derived.Test.YtffehibdeogjeaaKitA
import Derived.Test.YtffehibdeogjeaaKitK
import Derived.Test.YtffehibdeogjeaaKitJ
import Derived.Laws.AppendOwnNone
/- The contract of the reference's Popped (chapter 18). Condition: a list that lies at an address, not empty, of at most 2^40 timers. -/
namespace Go.Proofs.Ytffehibdeogjeaa
open Go.RowKit

set_option maxHeartbeats 8000000 in
set_option maxRecDepth 100000 in
theorem rpopped_any (b off c m : Nat) (l : List Tm) (w : World) (hm : l.length = m + 1) (hc : m + 1 ≤ c) (hn : m ≤ 1099511627776) (hbB : b < w.heap.size) (hr : Rd tenc 3 w w.heap.size (some ⟨b, off, none⟩) l) :
    Calls Try.prog 78 #[.slice (some ⟨b, off, none⟩) (m + 1) c] w fun e w' => ∃ v, e = .returned v ∧ Own tenc 3 w' w.heap.size 34 v (popL tlt t0 l) ∧ Below w.heap.size w w' := by
  obtain ⟨i0, hi0, hz0, hz1, hz2⟩ := info_parts tm_info
  obtain ⟨n, hn'⟩ : ∃ n, n = m + 1 := ⟨_, rfl⟩
  rw [← hn'] at hm hc ⊢
  obtain ⟨x, hx⟩ : ∃ x, l[m]? = some x := ⟨_, List.getElem?_eq_getElem (by omega)⟩
  have hpl : popL tlt t0 l = dn tlt t0 n ((l.set 0 x).take m) 0 := by rw [popL_of (lt := tlt) (d := t0) (by omega : l.length = m + 1) hx, hn']
  obtain ⟨b', off', e', -, c1, c2, c3⟩ := tm_cells hr hx
  simp only [Option.some.injEq, Addr.mk.injEq, and_true] at e'
  obtain ⟨rfl, rfl⟩ := e'
  have hflat := rd_flat tenc_len hr
  have hft : ((l.take m).flatMap tenc) = (l.flatMap tenc).take (m * 3) := by
    have e : l.flatMap tenc = (l.take m).flatMap tenc ++ (l.drop m).flatMap tenc := by rw [← List.flatMap_append, List.take_append_drop]
    rw [e, List.take_left' (by rw [flat_length tenc_len, List.length_take]; omega)]
  have hcel : ∀ j u, ((l.take m).flatMap tenc)[j]? = some u → w.cell? ((⟨b, off, none⟩ : Addr).add j) = some u := fun j u hj => hflat j u (by
    rw [hft, List.getElem?_take] at hj
    split at hj
    · exact hj
    · cases hj)
  have HM := Lib.hid hm; have HX := Lib.hid hx; have HP := Lib.hid hpl; have HF := Lib.hid hcel; have HN := Lib.hid hn'
  have e1 : IntKind.i64.wrap ((n : Int) - 1) = (m : Int) := by rw [IntWalk.i64_in _ (by omega)]; omega
  have i1 : (0 : Int) ≤ (m : Int) := by omega
  have i2 : (m : Int) < (n : Int) := by omega
  have i3 : (m : Int) ≤ (c : Int) := by omega
  have i4 : m ≤ c := by omega
  have htl : (l.take m).length = m := by rw [List.length_take]; omega
  have HTL := Lib.hid htl
  clear hx hpl hflat hft hcel hr hm htl hn'
  have hmade := Own.made (enc := tenc) (sz := 3) tenc_len w w.heap.size 34 [] w.heap.size rfl (Nat.le_refl _) (by simp [maxLen])
  have HMD := Lib.hid hmade
  clear hmade
  by_cases hz : m = 0
  · have b1 : ((m : Int) == 0) = true := by simp [hz]
    have hp0 : popL tlt t0 l = l.take m := by rw [popL_one (by rw [HM.out, HN.out, hz]), hz]; rfl
    have HP0 := Lib.hid hp0
    clear hz hp0
    go_enter Try.func78, Try.ntmps78
    go_wp2_with (first
      | (at_builtin; refine wpList_append_list rfl (.tmp 8) (.tmp 13) 22 rfl w.heap.size 34 i0 (.agg #[.int .i64 0, .int .i64 0, .int .i64 0]) 3 24 Try.underlying22 hi0 hz0 hz1 hz2 rfl (by decide) tenc tenc_len (.slice (some ⟨w.heap.size, 0, none⟩) 0 0) [] (l.take m) rfl HMD.out ⟨b, off, none⟩ m c rfl HTL.out (fun j u hj => (Below.cell (p := (⟨b, off, none⟩ : Addr).add j) ((Below.refl w.heap.size w).alloc (Nat.le_refl _) _) (by unfold Addr.add; split <;> simpa using hbB)).trans (HF.out j u hj)) (tenc_one _) (by unfold maxLen; simp; omega) (by simp; omega) (by simp) ?_; intro v w1 hown hgrow hbel; rw [List.nil_append] at hown; obtain ⟨Av, cv, hv⟩ := own_shape hown; rw [HTL.out] at hv; subst hv))
    go_ret
    have hb1 : Below w.heap.size w w1 := ((Below.refl w.heap.size w).alloc (Nat.le_refl _) _).trans hbel
    exact ⟨_, rfl, by rw [HP0.out]; exact hown, hb1⟩
  · have b1 : ((m : Int) == 0) = false := by simp [hz]
    have i5 : (0 : Int) < (m : Int) := by omega
    obtain ⟨y0, hy0⟩ : ∃ y, (l.take m)[0]? = some y := ⟨_, List.getElem?_eq_getElem (by rw [HTL.out]; omega)⟩
    have HY0 := Lib.hid hy0
    clear hy0
    go_enter Try.func78, Try.ntmps78
    go_wp2_with (first
      | (at_builtin; refine wpList_append_list rfl (.tmp 8) (.tmp 13) 22 rfl w.heap.size 34 i0 (.agg #[.int .i64 0, .int .i64 0, .int .i64 0]) 3 24 Try.underlying22 hi0 hz0 hz1 hz2 rfl (by decide) tenc tenc_len (.slice (some ⟨w.heap.size, 0, none⟩) 0 0) [] (l.take m) rfl HMD.out ⟨b, off, none⟩ m c rfl HTL.out (fun j u hj => (Below.cell (p := (⟨b, off, none⟩ : Addr).add j) ((Below.refl w.heap.size w).alloc (Nat.le_refl _) _) (by unfold Addr.add; split <;> simpa using hbB)).trans (HF.out j u hj)) (tenc_one _) (by unfold maxLen; simp; omega) (by simp; omega) (by simp) ?_; intro v w1 hown hgrow hbel; rw [List.nil_append] at hown; have hb1 : Below w.heap.size w w1 := ((Below.refl w.heap.size w).alloc (Nat.le_refl _) _).trans hbel; obtain ⟨g, cap, rfl, hbg, hglt⟩ := World.ownsRow.form hown (by rw [HTL.out]; omega); rw [HTL.out] at hown ⊢; have frz := own_frz hown HTL.out.symm; obtain ⟨g1, g2, g3, -⟩ := own_tm hown HY0.out; rw [Nat.zero_mul] at g1; rw [Nat.zero_mul, Nat.zero_add] at g2 g3; have F1 := (hb1.cell (p := ⟨b, off + m * 3, none⟩) hbB).trans c1; have F2 := (hb1.cell (p := ⟨b, off + m * 3 + 1, none⟩) hbB).trans c2; have F3 := (hb1.cell (p := ⟨b, off + m * 3 + 2, none⟩) hbB).trans c3; clear hgrow hbel))
    have hset := Own.set tenc_len hown HTL.out.symm 0 (by rw [HTL.out]; omega) x
    have hse : (l.take m).set 0 x = (l.set 0 x).take m := by rw [List.take_set]
    rw [hse] at hset
    have HSET := Lib.hid hset.1
    have hbs := hb1.grown hset.2 hb1.size (fun k hk => (by cases hk; exact hbg))
    have HBS := Lib.hid hbs
    clear hset hse hbs g1 g2 g3 F1 F2 F3 c1 c2 c3
    go_loopw [3, 4, 5] (fun o at_ r wr => ∃ (f i' r' g' cap' : Nat) (l' : List Tm), o = .slice (some ⟨g', 0, none⟩) m cap' ∧ at_ = .int .i64 i' ∧ r = .int .i64 r' ∧ f + r' = n ∧ l'.length = m ∧ i' < m ∧ m ≤ i' + f ∧ dn tlt t0 f l' i' = popL tlt t0 l ∧
      Own tenc 3 wr w.heap.size 34 (.slice (some ⟨g', 0, none⟩) m cap') l' ∧ Below w.heap.size w wr) (fun _ _ r _ => n - (intOf r).toNat)
    case atStart => exact ⟨n, 0, 0, g, cap, _, rfl, by go_num, by go_num, by omega, by rw [List.length_take, List.length_set, HM.out, HN.out]; omega, by omega, by rw [HN.out]; omega, HP.out.symm, HSET.out, HBS.out⟩
    case round =>
      obtain ⟨f, i', r', g', cap', l', rfl, rfl, rfl, hfr, hll, hin, hif, hdn, hown', hb⟩ := hrel
      clear hown frz
      have hown := hown'
      clear hown'
      have HLL := Lib.hid hll
      have HDN := Lib.hid hdn
      have b2 : decide ((r' : Int) < (n : Int)) = true := by simp; omega
      have b3 : decide (r' < n) = true := by simp; omega
      have b4 : IntKind.i64.wrap (2 * (i' : Int)) = 2 * (i' : Int) := IntWalk.i64_in _ (by omega)
      have b5 : IntKind.i64.wrap (2 * (i' : Int) + 1) = 2 * (i' : Int) + 1 := IntWalk.i64_in _ (by omega)
      have b6 : IntKind.i64.wrap (2 * (i' : Int) + 2) = 2 * (i' : Int) + 2 := IntWalk.i64_in _ (by omega)
      have b7 : IntKind.i64.wrap ((r' : Int) + 1) = (r' : Int) + 1 := IntWalk.i64_in _ (by have := HN.out; omega)
      clear hll hdn
      go_wp2
      go_loopw [6, 7] (fun best ch wi => ∃ j : Nat, j ≤ 2 ∧ best = .int .i64 (bsk tlt t0 l' i' j) ∧ ch = .int .i64 ((2 * i' + 1 + j : Nat) : Int) ∧ Below wr.heap.size wr wi) (fun _ ch _ => (2 * i' + 3) - (intOf ch).toNat)
      case atStart => exact ⟨0, by omega, rfl, by go_num, Below.refl _ _⟩
      case round =>
        obtain ⟨j, hj, rfl, rfl, hbi⟩ := hrel
        have hbl : bsk tlt t0 l' i' j < m := by have := bsk_lt (lt := tlt) (d := t0) l' i' (by rw [HLL.out]; exact hin) j; rwa [HLL.out] at this
        by_cases hgo : j < 2 ∧ 2 * i' + 1 + j < m
        · obtain ⟨hj2, hcm⟩ := hgo
          obtain ⟨B, hB⟩ : ∃ B, B = bsk tlt t0 l' i' j := ⟨_, rfl⟩
          obtain ⟨C, hC⟩ : ∃ C, C = 2 * i' + 1 + j := ⟨_, rfl⟩
          rw [← hB] at hbl ⊢
          rw [← hC]
          rw [← hC] at hcm
          obtain ⟨y, hy⟩ : ∃ y, l'[C]? = some y := ⟨_, List.getElem?_eq_getElem (by rw [HLL.out]; exact hcm)⟩
          obtain ⟨z, hz2⟩ : ∃ z, l'[B]? = some z := ⟨_, List.getElem?_eq_getElem (by rw [HLL.out]; exact hbl)⟩
          have hnx : bsk tlt t0 l' i' (j + 1) = if tlt y z = true then C else B := by
            rw [bsk, ← hC, ← hB, getD_some hy, getD_some hz2, HLL.out]
            simp [hcm]
          have HNX := Lib.hid hnx; have HC := Lib.hid hC
          obtain ⟨p1, p2, p3, hglt⟩ := own_tm (hown.below hbi) hy
          obtain ⟨q1, q2, q3, -⟩ := own_tm (hown.below hbi) hz2
          have hE : Env wr [] wr := ⟨Below.refl _ _, trivial⟩
          have hR : ∀ X, Env wr [] X → X.cell? ⟨g', C * 3, none⟩ = some (.int .i64 y.s) ∧ X.cell? ⟨g', C * 3 + 1, none⟩ = some (.int .i64 y.e) ∧ X.cell? ⟨g', C * 3 + 2, none⟩ = some (.int .i64 y.k) ∧
              X.cell? ⟨g', B * 3, none⟩ = some (.int .i64 z.s) ∧ X.cell? ⟨g', B * 3 + 1, none⟩ = some (.int .i64 z.e) ∧ X.cell? ⟨g', B * 3 + 2, none⟩ = some (.int .i64 z.k) := fun X hX =>
            ⟨(hX.1.cell (p := ⟨g', C * 3, none⟩) hglt).trans p1, (hX.1.cell (p := ⟨g', C * 3 + 1, none⟩) hglt).trans p2, (hX.1.cell (p := ⟨g', C * 3 + 2, none⟩) hglt).trans p3,
              (hX.1.cell (p := ⟨g', B * 3, none⟩) hglt).trans q1, (hX.1.cell (p := ⟨g', B * 3 + 1, none⟩) hglt).trans q2, (hX.1.cell (p := ⟨g', B * 3 + 2, none⟩) hglt).trans q3⟩
          have d1 : decide ((C : Int) ≤ 2 * (i' : Int) + 2) = true := by simp; omega
          have d2 : decide ((C : Int) < (m : Int)) = true := by simp; omega
          have d3 : decide (C < m) = true := by simp; omega
          have d4 : IntKind.i64.wrap ((C : Int) + 1) = (C : Int) + 1 := IntWalk.i64_in _ (by omega)
          have j1 : (0 : Int) ≤ (C : Int) := by omega
          have j2 : (C : Int) < (m : Int) := by omega
          have j3 : (0 : Int) ≤ (B : Int) := by omega
          have j4 : (B : Int) < (m : Int) := by omega
          clear p1 p2 p3 q1 q2 q3 hy hz2 hB hC hnx
          by_cases hlt : tlt y z = true
          · go_wp2_with fail
            refine wp_region_held_drew (S := Env wr []) (by kernel_rfl) (by (first | assumption | exact Env.step (by assumption) (by assumption) | exact Env.old (by assumption) _ | exact Env.drew hE | exact hE | exact Env.drew (by assumption) | exact Env.drew (Env.old (by assumption) _) | ((repeat first | refine Env.far0 ?_ (by assumption) _ | refine Env.far1 ?_ (by assumption) _ | refine Env.farA ?_ (by assumption) _); assumption))) (fun hHeld => ?_)
            refine hTake 0 (by kernel_rfl) (by kernel_rfl) (by kernel_rfl) (by decide) (by assumption) ?_; (intro oi hoi; simp only [List.getElem?_toArray, List.getElem?_cons_zero] at hoi; obtain rfl := Option.some.inj hoi; clear hoi); refine ⟨rfl, ?_⟩; apply Exists.intro; refine ⟨?_, fun _ _ _ h => h, ?_⟩; (intro w hSw; (try dsimp only at hSw); go_simp; (try with_reducible rfl)); (try simp only [Act.put, List.setIfInBounds_toArray, List.set_cons_zero, List.set_cons_succ]); refine hTake 1 (by kernel_rfl) (by kernel_rfl) (by kernel_rfl) (by decide) (by assumption) ?_; (intro oi hoi; simp only [List.getElem?_toArray, List.getElem?_cons_succ, List.getElem?_cons_zero] at hoi; obtain rfl := Option.some.inj hoi; clear hoi); refine ⟨rfl, ?_⟩; apply Exists.intro; refine ⟨?_, fun _ _ _ h => h, ?_⟩; (intro w hSw; (try dsimp only at hSw); go_simp; (try with_reducible rfl)); (try simp only [Act.put, List.setIfInBounds_toArray, List.set_cons_zero, List.set_cons_succ]); refine hTake 2 (by kernel_rfl) (by kernel_rfl) (by kernel_rfl) (by decide) (by assumption) ?_; (intro oi hoi; simp only [List.getElem?_toArray, List.getElem?_cons_succ, List.getElem?_cons_zero] at hoi; obtain rfl := Option.some.inj hoi; clear hoi); refine ⟨rfl, ?_⟩; apply Exists.intro; refine ⟨?_, fun _ _ _ h => h, ?_⟩; (intro w hSw; (try dsimp only at hSw); go_simp; (try with_reducible rfl)); (try simp only [Act.put, List.setIfInBounds_toArray, List.set_cons_zero, List.set_cons_succ]); refine hTake 3 (by kernel_rfl) (by kernel_rfl) (by kernel_rfl) (by decide) (by assumption) ?_; (intro oi hoi; simp only [List.getElem?_toArray, List.getElem?_cons_succ, List.getElem?_cons_zero] at hoi; obtain rfl := Option.some.inj hoi; clear hoi); refine ⟨rfl, ?_⟩; apply Exists.intro; refine ⟨?_, fun _ _ _ h => h, ?_⟩; (intro w hSw; (try dsimp only at hSw); go_simp; (try with_reducible rfl)); (try simp only [Act.put, List.setIfInBounds_toArray, List.set_cons_zero, List.set_cons_succ]); refine hTake 4 (by kernel_rfl) (by kernel_rfl) (by kernel_rfl) (by decide) (by assumption) ?_; (intro oi hoi; simp only [List.getElem?_toArray, List.getElem?_cons_succ, List.getElem?_cons_zero] at hoi; obtain rfl := Option.some.inj hoi; clear hoi); refine ⟨rfl, ?_⟩; apply Exists.intro; refine ⟨?_, fun _ _ _ h => h, ?_⟩; (intro w hSw; (try dsimp only at hSw); go_simp; (try with_reducible rfl)); (try simp only [Act.put, List.setIfInBounds_toArray, List.set_cons_zero, List.set_cons_succ]); refine hTake 5 (by kernel_rfl) (by kernel_rfl) (by kernel_rfl) (by decide) (by assumption) ?_; (intro oi hoi; simp only [List.getElem?_toArray, List.getElem?_cons_succ, List.getElem?_cons_zero] at hoi; obtain rfl := Option.some.inj hoi; clear hoi); refine ⟨rfl, ?_⟩; apply Exists.intro; refine ⟨?_, fun _ _ _ h => h, ?_⟩; (intro w hSw; (try dsimp only at hSw); go_simp; (try with_reducible rfl)); (try simp only [Act.put, List.setIfInBounds_toArray, List.set_cons_zero, List.set_cons_succ]); refine hTake 6 (by kernel_rfl) (by kernel_rfl) (by kernel_rfl) (by decide) (by assumption) ?_; (intro oi hoi; simp only [List.getElem?_toArray, List.getElem?_cons_succ, List.getElem?_cons_zero] at hoi; obtain rfl := Option.some.inj hoi; clear hoi); refine ⟨rfl, ?_⟩; apply Exists.intro; refine ⟨?_, fun _ _ _ h => h, ?_⟩; (intro w hSw; (try dsimp only at hSw); go_simp; (try with_reducible rfl)); (try simp only [Act.put, List.setIfInBounds_toArray, List.set_cons_zero, List.set_cons_succ]); refine hTake 7 (by kernel_rfl) (by kernel_rfl) (by kernel_rfl) (by decide) (by assumption) ?_; (intro oi hoi; simp only [List.getElem?_toArray, List.getElem?_cons_succ, List.getElem?_cons_zero] at hoi; obtain rfl := Option.some.inj hoi; clear hoi); refine ⟨rfl, ?_⟩; apply Exists.intro; refine ⟨?_, fun _ _ _ h => h, ?_⟩; (intro w hSw; (try dsimp only at hSw); go_simp; (try with_reducible rfl)); (try simp only [Act.put, List.setIfInBounds_toArray, List.set_cons_zero, List.set_cons_succ])
            refine hOnly 8 (by kernel_rfl) (by decide) ?_; (intro oi hoi; simp only [List.getElem?_toArray, List.getElem?_cons_succ, List.getElem?_cons_zero] at hoi; obtain rfl := Option.some.inj hoi; clear hoi); intro K hK; go_simp
            go_at_call 29
            refine (rtless_any y z _).mono ?_
            rw [hlt]
            rintro e w6 ⟨rfl, hb6⟩
            have hEhb6 := Env.step hb6 (by assumption); (try (have hqhb6 := (by with_reducible first | exact Loc.below hb6 (Loc.new (Loc.nil _) _ _) | exact Loc.below hb6 (Loc.drew (Loc.new (Loc.nil _) _ _)) | exact Loc.below hb6 (by assumption : Loc _ [_])); (repeat rw [World.size_drew] at hqhb6); (repeat rw [World.size_alloc] at hqhb6); have hrhb6 := hqhb6; (repeat unfold Loc at hrhb6)))
            (refine hK.out _ _ (by (first | assumption | exact Env.step (by assumption) (by assumption) | exact Env.old (by assumption) _ | exact Env.drew hE | exact hE | exact Env.drew (by assumption) | exact Env.drew (Env.old (by assumption) _) | ((repeat first | refine Env.far0 ?_ (by assumption) _ | refine Env.far1 ?_ (by assumption) _ | refine Env.farA ?_ (by assumption) _); assumption))) (fun hHeld => ?_); clear hK K; (try simp only [Act.put, List.setIfInBounds_toArray, List.set_cons_zero, List.set_cons_succ]))
            refine wpAnyH_done (by kernel_rfl) ?_ _
            have hbj := below_then hbi hHeld.1
            go_wp2
            go_roundw
            case rel => exact ⟨j + 1, by omega, by rw [HNX.out, if_pos hlt], by rw [HC.out]; go_num, hbj⟩
            case measure => simp [intOf, HC.out]; omega
          · have hlt' : tlt y z = false := by simpa using hlt
            go_wp2_with fail
            refine wp_region_held_drew (S := Env wr []) (by kernel_rfl) (by (first | assumption | exact Env.step (by assumption) (by assumption) | exact Env.old (by assumption) _ | exact Env.drew hE | exact hE | exact Env.drew (by assumption) | exact Env.drew (Env.old (by assumption) _) | ((repeat first | refine Env.far0 ?_ (by assumption) _ | refine Env.far1 ?_ (by assumption) _ | refine Env.farA ?_ (by assumption) _); assumption))) (fun hHeld => ?_)
            refine hTake 0 (by kernel_rfl) (by kernel_rfl) (by kernel_rfl) (by decide) (by assumption) ?_; (intro oi hoi; simp only [List.getElem?_toArray, List.getElem?_cons_zero] at hoi; obtain rfl := Option.some.inj hoi; clear hoi); refine ⟨rfl, ?_⟩; apply Exists.intro; refine ⟨?_, fun _ _ _ h => h, ?_⟩; (intro w hSw; (try dsimp only at hSw); go_simp; (try with_reducible rfl)); (try simp only [Act.put, List.setIfInBounds_toArray, List.set_cons_zero, List.set_cons_succ]); refine hTake 1 (by kernel_rfl) (by kernel_rfl) (by kernel_rfl) (by decide) (by assumption) ?_; (intro oi hoi; simp only [List.getElem?_toArray, List.getElem?_cons_succ, List.getElem?_cons_zero] at hoi; obtain rfl := Option.some.inj hoi; clear hoi); refine ⟨rfl, ?_⟩; apply Exists.intro; refine ⟨?_, fun _ _ _ h => h, ?_⟩; (intro w hSw; (try dsimp only at hSw); go_simp; (try with_reducible rfl)); (try simp only [Act.put, List.setIfInBounds_toArray, List.set_cons_zero, List.set_cons_succ]); refine hTake 2 (by kernel_rfl) (by kernel_rfl) (by kernel_rfl) (by decide) (by assumption) ?_; (intro oi hoi; simp only [List.getElem?_toArray, List.getElem?_cons_succ, List.getElem?_cons_zero] at hoi; obtain rfl := Option.some.inj hoi; clear hoi); refine ⟨rfl, ?_⟩; apply Exists.intro; refine ⟨?_, fun _ _ _ h => h, ?_⟩; (intro w hSw; (try dsimp only at hSw); go_simp; (try with_reducible rfl)); (try simp only [Act.put, List.setIfInBounds_toArray, List.set_cons_zero, List.set_cons_succ]); refine hTake 3 (by kernel_rfl) (by kernel_rfl) (by kernel_rfl) (by decide) (by assumption) ?_; (intro oi hoi; simp only [List.getElem?_toArray, List.getElem?_cons_succ, List.getElem?_cons_zero] at hoi; obtain rfl := Option.some.inj hoi; clear hoi); refine ⟨rfl, ?_⟩; apply Exists.intro; refine ⟨?_, fun _ _ _ h => h, ?_⟩; (intro w hSw; (try dsimp only at hSw); go_simp; (try with_reducible rfl)); (try simp only [Act.put, List.setIfInBounds_toArray, List.set_cons_zero, List.set_cons_succ]); refine hTake 4 (by kernel_rfl) (by kernel_rfl) (by kernel_rfl) (by decide) (by assumption) ?_; (intro oi hoi; simp only [List.getElem?_toArray, List.getElem?_cons_succ, List.getElem?_cons_zero] at hoi; obtain rfl := Option.some.inj hoi; clear hoi); refine ⟨rfl, ?_⟩; apply Exists.intro; refine ⟨?_, fun _ _ _ h => h, ?_⟩; (intro w hSw; (try dsimp only at hSw); go_simp; (try with_reducible rfl)); (try simp only [Act.put, List.setIfInBounds_toArray, List.set_cons_zero, List.set_cons_succ]); refine hTake 5 (by kernel_rfl) (by kernel_rfl) (by kernel_rfl) (by decide) (by assumption) ?_; (intro oi hoi; simp only [List.getElem?_toArray, List.getElem?_cons_succ, List.getElem?_cons_zero] at hoi; obtain rfl := Option.some.inj hoi; clear hoi); refine ⟨rfl, ?_⟩; apply Exists.intro; refine ⟨?_, fun _ _ _ h => h, ?_⟩; (intro w hSw; (try dsimp only at hSw); go_simp; (try with_reducible rfl)); (try simp only [Act.put, List.setIfInBounds_toArray, List.set_cons_zero, List.set_cons_succ]); refine hTake 6 (by kernel_rfl) (by kernel_rfl) (by kernel_rfl) (by decide) (by assumption) ?_; (intro oi hoi; simp only [List.getElem?_toArray, List.getElem?_cons_succ, List.getElem?_cons_zero] at hoi; obtain rfl := Option.some.inj hoi; clear hoi); refine ⟨rfl, ?_⟩; apply Exists.intro; refine ⟨?_, fun _ _ _ h => h, ?_⟩; (intro w hSw; (try dsimp only at hSw); go_simp; (try with_reducible rfl)); (try simp only [Act.put, List.setIfInBounds_toArray, List.set_cons_zero, List.set_cons_succ]); refine hTake 7 (by kernel_rfl) (by kernel_rfl) (by kernel_rfl) (by decide) (by assumption) ?_; (intro oi hoi; simp only [List.getElem?_toArray, List.getElem?_cons_succ, List.getElem?_cons_zero] at hoi; obtain rfl := Option.some.inj hoi; clear hoi); refine ⟨rfl, ?_⟩; apply Exists.intro; refine ⟨?_, fun _ _ _ h => h, ?_⟩; (intro w hSw; (try dsimp only at hSw); go_simp; (try with_reducible rfl)); (try simp only [Act.put, List.setIfInBounds_toArray, List.set_cons_zero, List.set_cons_succ])
            refine hOnly 8 (by kernel_rfl) (by decide) ?_; (intro oi hoi; simp only [List.getElem?_toArray, List.getElem?_cons_succ, List.getElem?_cons_zero] at hoi; obtain rfl := Option.some.inj hoi; clear hoi); intro K hK; go_simp
            go_at_call 29
            refine (rtless_any y z _).mono ?_
            rw [hlt']
            rintro e w6 ⟨rfl, hb6⟩
            have hEhb6 := Env.step hb6 (by assumption); (try (have hqhb6 := (by with_reducible first | exact Loc.below hb6 (Loc.new (Loc.nil _) _ _) | exact Loc.below hb6 (Loc.drew (Loc.new (Loc.nil _) _ _)) | exact Loc.below hb6 (by assumption : Loc _ [_])); (repeat rw [World.size_drew] at hqhb6); (repeat rw [World.size_alloc] at hqhb6); have hrhb6 := hqhb6; (repeat unfold Loc at hrhb6)))
            (refine hK.out _ _ (by (first | assumption | exact Env.step (by assumption) (by assumption) | exact Env.old (by assumption) _ | exact Env.drew hE | exact hE | exact Env.drew (by assumption) | exact Env.drew (Env.old (by assumption) _) | ((repeat first | refine Env.far0 ?_ (by assumption) _ | refine Env.far1 ?_ (by assumption) _ | refine Env.farA ?_ (by assumption) _); assumption))) (fun hHeld => ?_); clear hK K; (try simp only [Act.put, List.setIfInBounds_toArray, List.set_cons_zero, List.set_cons_succ]))
            refine wpAnyH_done (by kernel_rfl) ?_ _
            have hbj := below_then hbi hHeld.1
            go_wp2
            go_roundw
            case rel => exact ⟨j + 1, by omega, by rw [HNX.out, if_neg hlt], by rw [HC.out]; go_num, hbj⟩
            case measure => simp [intOf, HC.out]; omega
        · have hbe : bsk tlt t0 l' i' j = bsk tlt t0 l' i' 2 := by
            by_cases hj2 : j = 2
            · rw [hj2]
            · have := bsk_out (lt := tlt) (d := t0) l' i' (2 - j) j (by rw [HLL.out]; omega)
              rw [← this, show j + (2 - j) = 2 by omega]
          rw [hbe] at hbl ⊢
          obtain ⟨B, hB⟩ : ∃ B, B = bsk tlt t0 l' i' 2 := ⟨_, rfl⟩
          obtain ⟨C, hC⟩ : ∃ C, C = 2 * i' + 1 + j := ⟨_, rfl⟩
          rw [← hB] at hbl ⊢
          rw [← hC]
          have HB := Lib.hid hB
          have hown6 := hown.below hbi
          have hb6 := below_then hb hbi
          have dd : (decide ((C : Int) ≤ 2 * (i' : Int) + 2) = true ∧ decide ((C : Int) < (m : Int)) = false ∧ decide (C < m) = false) ∨ decide ((C : Int) ≤ 2 * (i' : Int) + 2) = false := by
            by_cases hj2 : j = 2
            · right; simp; omega
            · left; simp; omega
          have j3 : (0 : Int) ≤ (B : Int) := by omega
          have j4 : (B : Int) < (m : Int) := by omega
          clear hB hC hgo hbe
          by_cases hst : B = i'
          · have hz3 : dn tlt t0 f l' i' = l' := bsk_stop tsto f (by rw [← HB.out, hst])
            have HZ := Lib.hid hz3
            have k2 : ((B : Int) == (i' : Int)) = true := by simp [hst]
            clear hz3 hst
            rcases dd with ⟨d1, d2, d3⟩ | d1
            all_goals
              go_wp2
              go_ret
              exact ⟨_, rfl, by rw [← HDN.out, HZ.out]; exact hown6, hb6⟩
          · obtain ⟨f', e0, e1, e2⟩ := bsk_step tsto (m := f) (l := l') (i := i') (by rw [HLL.out]; exact hif) (by rw [← HB.out]; exact hst)
            rw [← HB.out] at e1 e2
            rw [HLL.out] at e2
            have E1 := Lib.hid e1
            have k2 : ((B : Int) == (i' : Int)) = false := by simp; omega
            have hne : i' ≠ B := by omega
            clear e1
            rcases dd with ⟨d1, d2, d3⟩ | d1
            all_goals
              go_wp2_with (go_at_call 105; refine (rswapped_len (some ⟨g', 0, none⟩) cap' m l' i' B _ HLL.out hin hbl hne (by omega) (Own.rd tenc_len hown6)).mono ?_; rintro e w7 ⟨v7, rfl, hown7, hb7⟩)
              go_roundw
              case rel =>
                obtain ⟨g7, cap7, hv7, -, -⟩ := World.ownsRow.form hown7 (by rw [sw_length, HLL.out]; omega)
                rw [sw_length, HLL.out] at hv7
                subst hv7
                exact ⟨f', B, r' + 1, g7, cap7, sw t0 l' i' B, rfl, rfl, by go_num, by omega, by rw [sw_length, HLL.out], hbl, e2, by rw [← E1.out, HDN.out], hown7.mono hb6.size, below_then hb6 hb7⟩
              case measure => simp [intOf]; omega
end Go.Proofs.Ytffehibdeogjeaa

/- The contract of the reference's Pop (chapter 18). Condition: a list that lies at an address, with room for itself, of at most 2^40 timers. -/
namespace Go.Proofs.Ytffehibdeogjeaa
open Go.RowKit

/-- What a region keeps that stores into a box of the call's own. -/
def EnvBox (w0 : World) (b : Nat) (X : World) : Prop := Below w0.heap.size w0 X ∧ w0.heap.size ≤ b ∧ ∃ a1 a2 a3, Loc X [(b, [a1, a2, a3])]
theorem EnvBox.step {w0 X Y : World} {b : Nat} (h : EnvBox w0 b X) (hb : Below X.heap.size X Y) : EnvBox w0 b Y := by
  obtain ⟨h1, h2, a1, a2, a3, h3⟩ := h
  exact ⟨below_then h1 hb, h2, a1, a2, a3, h3.below hb⟩
theorem EnvBox.drew {w0 X : World} {b : Nat} (h : EnvBox w0 b X) : EnvBox w0 b X.drew := h.step (Below.drew (Below.refl _ _))
theorem EnvBox.put {w0 X : World} {b : Nat} (h : EnvBox w0 b X) (v1 v2 v3 : Value) : EnvBox w0 b (((X.setCell ⟨b, 0, none⟩ v1).setCell ⟨b, 1, none⟩ v2).setCell ⟨b, 2, none⟩ v3) := by
  obtain ⟨h1, h2, a1, a2, a3, h3⟩ := h
  refine ⟨below_put (below_put (below_put h1 h2 _) h2 _) h2 _, h2, v1, v2, v3, ?_⟩
  exact ((h3.put (by simp) 0 v1 (by simp)).put (by simp) 1 v2 (by simp)).put (by simp) 2 v3 (by simp)

set_option maxHeartbeats 8000000 in
set_option maxRecDepth 100000 in
theorem rpop_any (b off c : Nat) (l : List Tm) (w : World) (hc : l.length ≤ c) (hn : l.length ≤ 1099511627776) (hbB : b < w.heap.size) (hr : Rd tenc 3 w w.heap.size (some ⟨b, off, none⟩) l) :
    Calls Try.prog 33 #[.slice (some ⟨b, off, none⟩) l.length c] w fun e w' =>
      ∃ v, e = .returned (.tuple #[.agg #[.int .i64 (tpopl l).1.s, .int .i64 (tpopl l).1.e, .int .i64 (tpopl l).1.k], v, .int .i64 (tpopl l).2.2]) ∧ Own tenc 3 w' w.heap.size 34 v (tpopl l).2.1 ∧ Below w.heap.size w w' := by
  have hck := fun W (h : Rd tenc 3 W W.heap.size (some ⟨b, off, none⟩) l) => rtcheck_any (some ⟨b, off, none⟩) c l W hn h
  obtain ⟨n, hn'⟩ : ∃ n, n = l.length := ⟨_, rfl⟩
  rw [← hn'] at hn hc hck ⊢
  have HN := Lib.hid hn'; have HCK := Lib.hid hck
  clear hn' hck
  have hL : Loc w [] := trivial
  obtain ⟨q, hq⟩ : ∃ q, q = tck l := ⟨_, rfl⟩
  have HQ := Lib.hid hq
  by_cases h0 : q = 0
  · have b0 : (q != 0) = false := by simp [h0]
    by_cases hz : n = 0
    · have b1 : ((n : Int) == 0) = true := by simp [hz]
      have hs : tpopl l = (t0, [], 6) := by unfold tpopl; rw [if_neg (by rw [← hq, h0]; simp), if_pos (by rw [← HN.out]; exact hz)]
      have HS := Lib.hid hs
      clear hs h0 hq hz
      go_enter Try.func33, Try.ntmps33
      go_wp2_with (first
        | (go_at_call 22; refine (HCK.out _ (rd_grown hr (by repeat (first | with_reducible exact Below.refl _ _ | with_reducible assumption | (with_reducible exact Env.below (by assumption)) | (with_reducible refine below_new ?_ _) | (with_reducible refine below_drew ?_) | (with_reducible refine below_drewN ?_ _) | (with_reducible refine below_put ?_ ?_ _; rotate_left 1; (dsimp only; omega)) | (with_reducible refine below_then ?_ (by assumption)))))).mono ?_; rw [← HQ.out]; rintro e w1 ⟨rfl, hb1⟩; replace hL := (by with_reducible first | exact hL.below hb1 | exact (hL.new _ _).below hb1 | exact ((hL.new _ _).new _ _).below hb1 | exact (((hL.new _ _).new _ _).new _ _).below hb1 | exact ((((hL.new _ _).new _ _).new _ _).new _ _).below hb1); (repeat rw [World.size_alloc] at hL); have hF := hL; (repeat unfold Loc at hF)))
      refine bodyPost_ret (v := _) (by rw [results_cell_tmp2 Try.results33]; go_simp; rfl) rfl ?_
      exact ⟨.slice none 0 0, by simp [HS.out, t0], by rw [HS.out]; exact Own.nil _ _ _, (by repeat (first | with_reducible exact Below.refl _ _ | with_reducible assumption | (with_reducible exact Env.below (by assumption)) | (with_reducible refine below_new ?_ _) | (with_reducible refine below_drew ?_) | (with_reducible refine below_drewN ?_ _) | (with_reducible refine below_put ?_ ?_ _; rotate_left 1; (dsimp only; omega)) | (with_reducible refine below_then ?_ (by assumption))))⟩
    · obtain ⟨x0, hx0⟩ : ∃ x, l[0]? = some x := ⟨_, List.getElem?_eq_getElem (by rw [← HN.out]; omega)⟩
      have b1 : ((n : Int) == 0) = false := by simp [hz]
      have j0 : (0 : Int) < (n : Int) := by omega
      have j1 : 0 < n := by omega
      obtain ⟨m, hm⟩ : ∃ m, n = m + 1 := ⟨n - 1, by omega⟩
      have hs : tpopl l = (x0, popL tlt t0 l, 0) := by unfold tpopl; rw [if_neg (by rw [← hq, h0]; simp), if_neg (by rw [← HN.out]; exact hz), getD_some hx0]
      obtain ⟨b', off', e', -, c1, c2, c3⟩ := tm_cells hr hx0
      simp only [Option.some.injEq, Addr.mk.injEq, and_true] at e'
      obtain ⟨rfl, rfl⟩ := e'
      simp only [Nat.zero_mul, Nat.add_zero] at c1 c2 c3
      have hpp : ∀ W, b < W.heap.size → Rd tenc 3 W W.heap.size (some ⟨b, off, none⟩) l → Calls Try.prog 78 #[.slice (some ⟨b, off, none⟩) n c] W fun e w' => ∃ v, e = .returned v ∧ Own tenc 3 w' W.heap.size 34 v (popL tlt t0 l) ∧ Below W.heap.size W w' := by
        intro W h1 h2
        have := rpopped_any b off c m l W (by rw [← HN.out, hm]) (by omega) (by omega) h1 h2
        rwa [← hm] at this
      have HPP := Lib.hid hpp
      have HS := Lib.hid hs
      clear hs h0 hq hz hx0 hm hpp
      go_enter Try.func33, Try.ntmps33
      go_wp2_with (first
        | (go_at_call 22; refine (HCK.out _ (rd_grown hr (by repeat (first | with_reducible exact Below.refl _ _ | with_reducible assumption | (with_reducible exact Env.below (by assumption)) | (with_reducible refine below_new ?_ _) | (with_reducible refine below_drew ?_) | (with_reducible refine below_drewN ?_ _) | (with_reducible refine below_put ?_ ?_ _; rotate_left 1; (dsimp only; omega)) | (with_reducible refine below_then ?_ (by assumption)))))).mono ?_; rw [← HQ.out]; rintro e w1 ⟨rfl, hb1⟩; replace hL := (by with_reducible first | exact hL.below hb1 | exact (hL.new _ _).below hb1 | exact ((hL.new _ _).new _ _).below hb1 | exact (((hL.new _ _).new _ _).new _ _).below hb1 | exact ((((hL.new _ _).new _ _).new _ _).new _ _).below hb1); (repeat rw [World.size_alloc] at hL); have hF := hL; (repeat unfold Loc at hF)))
      have hE : EnvBox w w.heap.size w1 := ⟨(by repeat (first | with_reducible exact Below.refl _ _ | with_reducible assumption | (with_reducible exact Env.below (by assumption)) | (with_reducible refine below_new ?_ _) | (with_reducible refine below_drew ?_) | (with_reducible refine below_drewN ?_ _) | (with_reducible refine below_put ?_ ?_ _; rotate_left 1; (dsimp only; omega)) | (with_reducible refine below_then ?_ (by assumption)))), Nat.le_refl _, _, _, _, hL⟩
      have hR : ∀ X, EnvBox w w.heap.size X → X.cell? ⟨b, off, none⟩ = some (.int .i64 x0.s) ∧ X.cell? ⟨b, off + 1, none⟩ = some (.int .i64 x0.e) ∧ X.cell? ⟨b, off + 2, none⟩ = some (.int .i64 x0.k) := fun X hX =>
        ⟨(hX.1.cell (p := ⟨b, off, none⟩) hbB).trans c1, (hX.1.cell (p := ⟨b, off + 1, none⟩) hbB).trans c2, (hX.1.cell (p := ⟨b, off + 2, none⟩) hbB).trans c3⟩
      have hlt1 : w.heap.size < w1.heap.size := hF.1
      clear hF hL hb1 c1 c2 c3
      refine wp_region_held_drew (S := EnvBox w w.heap.size) (by kernel_rfl) (EnvBox.drew hE) (fun hHeld => ?_)
      refine hTake 0 (by kernel_rfl) (by kernel_rfl) (by kernel_rfl) (by decide) (by assumption) ?_; (intro oi hoi; simp only [List.getElem?_toArray, List.getElem?_cons_zero] at hoi; obtain rfl := Option.some.inj hoi; clear hoi); refine ⟨rfl, ?_⟩; apply Exists.intro; refine ⟨?_, fun _ _ _ h => h, ?_⟩; (intro w hSw; (try dsimp only at hSw); go_simp; (try with_reducible rfl)); (try simp only [Act.put, List.setIfInBounds_toArray, List.set_cons_zero, List.set_cons_succ]); refine hTake 1 (by kernel_rfl) (by kernel_rfl) (by kernel_rfl) (by decide) (by assumption) ?_; (intro oi hoi; simp only [List.getElem?_toArray, List.getElem?_cons_succ, List.getElem?_cons_zero] at hoi; obtain rfl := Option.some.inj hoi; clear hoi); refine ⟨rfl, ?_⟩; apply Exists.intro; refine ⟨?_, fun _ _ _ h => h, ?_⟩; (intro w hSw; (try dsimp only at hSw); go_simp; (try with_reducible rfl)); (try simp only [Act.put, List.setIfInBounds_toArray, List.set_cons_zero, List.set_cons_succ]); refine hTake 2 (by kernel_rfl) (by kernel_rfl) (by kernel_rfl) (by decide) (by assumption) ?_; (intro oi hoi; simp only [List.getElem?_toArray, List.getElem?_cons_succ, List.getElem?_cons_zero] at hoi; obtain rfl := Option.some.inj hoi; clear hoi); refine ⟨rfl, ?_⟩; apply Exists.intro; refine ⟨?_, fun _ _ _ h => h, ?_⟩; (intro w hSw; (try dsimp only at hSw); go_simp; (try with_reducible rfl)); (try simp only [Act.put, List.setIfInBounds_toArray, List.set_cons_zero, List.set_cons_succ]); refine hTake 3 (by kernel_rfl) (by kernel_rfl) (by kernel_rfl) (by decide) (by assumption) ?_; (intro oi hoi; simp only [List.getElem?_toArray, List.getElem?_cons_succ, List.getElem?_cons_zero] at hoi; obtain rfl := Option.some.inj hoi; clear hoi); refine ⟨rfl, ?_⟩; apply Exists.intro; refine ⟨?_, fun _ _ _ h => h, ?_⟩; (intro w hSw; (try dsimp only at hSw); go_simp; (try with_reducible rfl)); (try simp only [Act.put, List.setIfInBounds_toArray, List.set_cons_zero, List.set_cons_succ])
      refine hOnly 4 (by kernel_rfl) (by decide) ?_; (intro oi hoi; simp only [List.getElem?_toArray, List.getElem?_cons_succ, List.getElem?_cons_zero] at hoi; obtain rfl := Option.some.inj hoi; clear hoi); intro K hK; go_simp
      refine (HPP.out _ (Nat.lt_of_lt_of_le hbB (Below.size hHeld.1)) (rd_grown hr hHeld.1)).mono ?_
      rintro e w3 ⟨v3, rfl, hown3, hb3⟩
      have hE3 := EnvBox.step hHeld hb3
      refine hK.out _ _ hE3 (fun hHeld => ?_)
      clear hK K
      (try simp only [Act.put, List.setIfInBounds_toArray, List.set_cons_zero, List.set_cons_succ])
      obtain ⟨a1, a2, a3, hl3⟩ := hE3.2.2
      (repeat unfold Loc at hl3)
      refine hOnly 5 (by kernel_rfl) (by decide) ?_
      (intro oi hoi; simp only [List.getElem?_toArray, List.getElem?_cons_succ, List.getElem?_cons_zero] at hoi; obtain rfl := Option.some.inj hoi; clear hoi); intro K hK
      go_simp
      refine hK.out _ _ (EnvBox.put hE3 _ _ _) (fun hHeld => ?_)
      clear hK K
      (try simp only [Act.put, List.setIfInBounds_toArray, List.set_cons_zero, List.set_cons_succ])
      refine hTake 6 (by kernel_rfl) (by kernel_rfl) (by kernel_rfl) (by decide) (by assumption) ?_; (intro oi hoi; simp only [List.getElem?_toArray, List.getElem?_cons_succ, List.getElem?_cons_zero] at hoi; obtain rfl := Option.some.inj hoi; clear hoi); refine ⟨rfl, ?_⟩; apply Exists.intro; refine ⟨?_, fun _ _ _ h => h, ?_⟩; (intro w hSw; (try dsimp only at hSw); go_simp; (try with_reducible rfl)); (try simp only [Act.put, List.setIfInBounds_toArray, List.set_cons_zero, List.set_cons_succ]); refine hTake 7 (by kernel_rfl) (by kernel_rfl) (by kernel_rfl) (by decide) (by assumption) ?_; (intro oi hoi; simp only [List.getElem?_toArray, List.getElem?_cons_succ, List.getElem?_cons_zero] at hoi; obtain rfl := Option.some.inj hoi; clear hoi); refine ⟨rfl, ?_⟩; apply Exists.intro; refine ⟨?_, fun _ _ _ h => h, ?_⟩; (intro w hSw; (try dsimp only at hSw); go_simp; (try with_reducible rfl)); (try simp only [Act.put, List.setIfInBounds_toArray, List.set_cons_zero, List.set_cons_succ])
      refine wpAnyH_done (by kernel_rfl) ?_ _
      go_wp2
      refine bodyPost_ret (v := _) (by rw [results_cell_tmp2 Try.results33]; go_simp; rfl) rfl ?_
      exact ⟨v3, by simp [HS.out], by rw [HS.out]; exact (hown3.grown (putW_grown w.heap.size 0 [_, _, _] 0 w3) (own_apart hown3 hlt1)).mono (Nat.le_of_lt hlt1), hHeld.1⟩
  · have b0 : (q != 0) = true := by simp [h0]
    have hs : tpopl l = (t0, [], q) := by unfold tpopl; rw [if_pos (by rw [← hq]; exact h0), ← hq]
    have HS := Lib.hid hs
    clear hs h0 hq
    go_enter Try.func33, Try.ntmps33
    go_wp2_with (first
      | (go_at_call 22; refine (HCK.out _ (rd_grown hr (by repeat (first | with_reducible exact Below.refl _ _ | with_reducible assumption | (with_reducible exact Env.below (by assumption)) | (with_reducible refine below_new ?_ _) | (with_reducible refine below_drew ?_) | (with_reducible refine below_drewN ?_ _) | (with_reducible refine below_put ?_ ?_ _; rotate_left 1; (dsimp only; omega)) | (with_reducible refine below_then ?_ (by assumption)))))).mono ?_; rw [← HQ.out]; rintro e w1 ⟨rfl, hb1⟩; replace hL := (by with_reducible first | exact hL.below hb1 | exact (hL.new _ _).below hb1 | exact ((hL.new _ _).new _ _).below hb1 | exact (((hL.new _ _).new _ _).new _ _).below hb1 | exact ((((hL.new _ _).new _ _).new _ _).new _ _).below hb1); (repeat rw [World.size_alloc] at hL); have hF := hL; (repeat unfold Loc at hF)))
    refine bodyPost_ret (v := _) (by rw [results_cell_tmp2 Try.results33]; go_simp; rfl) rfl ?_
    exact ⟨.slice none 0 0, by simp [HS.out, t0], by rw [HS.out]; exact Own.nil _ _ _, (by repeat (first | with_reducible exact Below.refl _ _ | with_reducible assumption | (with_reducible exact Env.below (by assumption)) | (with_reducible refine below_new ?_ _) | (with_reducible refine below_drew ?_) | (with_reducible refine below_drewN ?_ _) | (with_reducible refine below_put ?_ ?_ _; rotate_left 1; (dsimp only; omega)) | (with_reducible refine below_then ?_ (by assumption))))⟩
end Go.Proofs.Ytffehibdeogjeaa

/- The contracts of the reference's Sorted and Great (chapter 18). Condition: a list of at most 2^40 timers. -/
namespace Go.Proofs.Ytffehibdeogjeaa
open Go.RowKit

theorem rgreat_any (A : Option Addr) (c n : Nat) (w : World) :
    Calls Try.prog 30 #[.slice A n c] w fun e w' => e = .returned (.bool (decide (120 < n ∧ n < 3999 ∨ 4002 < n))) ∧ w = w' := by
  go_enter Try.func30, Try.ntmps30
  by_cases h1 : 120 < n
  · have b1 : decide ((120 : Int) < (n : Int)) = true := by simp; omega
    have b1' : decide (120 < n) = true := by simp [h1]
    by_cases h2 : n < 3999
    · have b2 : decide ((n : Int) < (3999 : Int)) = true := by simp; omega
      have b2' : decide (n < 3999) = true := by simp [h2]
      go_wp2
      go_ret
      exact ⟨ret_bool (by first | (rw [decide_eq_decide]; omega) | (simp; omega)), rfl⟩
    · have b2 : decide ((n : Int) < (3999 : Int)) = false := by simp; omega
      have b2' : decide (n < 3999) = false := by simp [h2]
      go_wp2
      all_goals (go_ret; exact ⟨ret_bool (by first | (rw [decide_eq_decide]; omega) | (simp; omega)), rfl⟩)
  · have b1 : decide ((120 : Int) < (n : Int)) = false := by simp; omega
    have b1' : decide (120 < n) = false := by simp [h1]
    go_wp2
    all_goals (go_ret; exact ⟨ret_bool (by first | (rw [decide_eq_decide]; omega) | (simp; omega)), rfl⟩)

theorem bub_stop {α : Type} {lt : α → α → Bool} {d : α} {l : List α} {k : Nat} (h : lt (l.getD (k + 1) d) (l.getD k d) = false) : bub lt d (k + 1) l = l := by
  rw [bub, if_neg (by rw [h]; simp)]
theorem bub_step {α : Type} {lt : α → α → Bool} {d : α} {l : List α} {k : Nat} (h : lt (l.getD (k + 1) d) (l.getD k d) = true) : bub lt d (k + 1) l = bub lt d k (sw d l (k + 1) k) := by
  rw [bub, if_pos h]

set_option maxHeartbeats 8000000 in
set_option maxRecDepth 100000 in
theorem rsorted_any (A : Option Addr) (c : Nat) (l : List Tm) (w : World) (hn : l.length ≤ 1099511627776) (hr : Rd tenc 3 w w.heap.size A l) :
    Calls Try.prog 26 #[.slice A l.length c] w fun e w' => ∃ v, e = .returned v ∧ Own tenc 3 w' w.heap.size 34 v (sortL tlt t0 l) ∧ Below w.heap.size w w' := by
  obtain ⟨i0, hi0, hz0, hz1, hz2⟩ := info_parts tm_info
  obtain ⟨n, hn'⟩ : ∃ n, n = l.length := ⟨_, rfl⟩
  rw [← hn'] at hn ⊢
  have HN := Lib.hid hn'
  clear hn'
  go_enter Try.func26, Try.ntmps26
  go_wp2
  go_loopw [3, 4] (fun o i wr => ∃ k : Nat, k ≤ n ∧ i = .int .i64 k ∧ Own tenc 3 wr w.heap.size 34 o (sortL tlt t0 (l.take k)) ∧ Below w.heap.size w wr) (fun _ i _ => n - (intOf i).toNat)
  case atStart => exact ⟨0, Nat.zero_le _, rfl, Own.nil _ _ _, Below.refl _ _⟩
  case round =>
    obtain ⟨k, hk, rfl, howo, hb⟩ := hrel
    by_cases hlt : k < n
    · obtain ⟨x, hx⟩ : ∃ x, l[k]? = some x := ⟨_, List.getElem?_eq_getElem (by rw [← HN.out]; exact hlt)⟩
      obtain ⟨b, off, rfl, hbB, f1, f2, f3⟩ := tm_cells hr hx
      have d1 := (hb.cell (p := ⟨b, off + k * 3, none⟩) hbB).trans f1
      have d2 := (hb.cell (p := ⟨b, off + k * 3 + 1, none⟩) hbB).trans f2
      have d3 := (hb.cell (p := ⟨b, off + k * 3 + 2, none⟩) hbB).trans f3
      have hts : sortL tlt t0 (l.take (k + 1)) = bub tlt t0 k (sortL tlt t0 (l.take k) ++ [x]) := by
        have hkl : k < l.length := by rw [← HN.out]; exact hlt
        have e : l[k] = x := by rw [List.getElem?_eq_getElem hkl] at hx; exact Option.some.inj hx
        rw [List.take_succ_eq_append_getElem hkl, e, sortL_snoc, sortL_length tsto, List.length_take, Nat.min_eq_left (by omega)]
      have hsl : (sortL tlt t0 (l.take k)).length = k := by rw [sortL_length tsto, List.length_take, Nat.min_eq_left (by rw [← HN.out]; omega)]
      obtain ⟨S, hS⟩ : ∃ S, S = sortL tlt t0 (l.take k) := ⟨_, rfl⟩
      rw [← hS] at howo hts hsl
      have HTS := Lib.hid hts; have HSL := Lib.hid hsl
      have b1 : decide ((k : Int) < (n : Int)) = true := by simp; omega
      have b2 : decide (k < n) = true := by simp [hlt]
      have j1 : (0 : Int) ≤ (k : Int) := by omega
      have j2 : (k : Int) < (n : Int) := by omega
      clear hx f1 f2 f3 hts hsl hS
      go_wp2_with (first
        | (at_builtin; refine wpList_append_elem rfl _ _ 22 rfl w.heap.size 34 i0 (.agg #[.int .i64 0, .int .i64 0, .int .i64 0]) 3 24 Try.underlying22 hi0 hz0 hz1 hz2 rfl (by decide) tenc tenc_len _ _ x rfl (howo.alloc (.cells #[.int .i64 x.s, .int .i64 x.e, .int .i64 x.k] 34)) ⟨wr.heap.size, 0, none⟩ 1 rfl (by intro j u hj; exact tm_new _ x 34 wr.heap.size rfl j u (by simpa using hj)) (tm_one x) (by rw [HSL.out]; unfold maxLen; omega) (by rw [HSL.out]; omega) (by have := hb.size; simp; omega) ?_; intro v' w5 hown' hgrow hbel; have hb5 : Below w.heap.size w w5 := (hb.alloc hb.size _).trans hbel; obtain ⟨g, cap, rfl, hbg, hglt⟩ := World.ownsRow.form hown' (by simp); rw [show (S ++ [x]).length = k + 1 by simp [HSL.out]] at hown' ⊢; clear hgrow hbel))
      go_loopw [5] (fun i wi => ∃ (j : Nat) (l' : List Tm), i = .int .i64 j ∧ l'.length = k + 1 ∧ j ≤ k ∧ bub tlt t0 j l' = bub tlt t0 k (S ++ [x]) ∧ Own tenc 3 wi w.heap.size 34 (.slice (some ⟨g, 0, none⟩) (k + 1) cap) l' ∧ Below w.heap.size w wi) (fun i _ => (intOf i).toNat)
      case atStart => exact ⟨k, S ++ [x], by go_num, by simp [HSL.out], Nat.le_refl _, rfl, hown', hb5⟩
      case round =>
        obtain ⟨j', l', rfl, hll, hjk, hbb, hown, hbi⟩ := hrel
        have HLL := Lib.hid hll
        have HBB := Lib.hid hbb
        clear hown' hb5 hbb d1 d2 d3 hr b1 b2 hb howo j1 j2
        have e3 : IntKind.i64.wrap ((k : Int) + 1) = (k : Int) + 1 := IntWalk.i64_in _ (by omega)
        have hE : Env wr [] wr := ⟨Below.refl _ _, trivial⟩
        by_cases hj0 : j' = 0
        · have hbz : l' = bub tlt t0 k (S ++ [x]) := by rw [← HBB.out, hj0]; rfl
          have HBZ := Lib.hid hbz
          have b3 : decide ((0 : Int) < (j' : Int)) = false := by simp [hj0]
          have b4 : decide (0 < j') = false := by simp [hj0]
          clear hbz hj0 hll
          go_wp2_with fail
          refine wp_region_held_drew (S := Env wr []) (by kernel_rfl) (by (first | assumption | exact Env.step (by assumption) (by assumption) | exact Env.old (by assumption) _ | exact Env.drew hE | exact hE | exact Env.drew (by assumption) | exact Env.drew (Env.old (by assumption) _) | ((repeat first | refine Env.far0 ?_ (by assumption) _ | refine Env.far1 ?_ (by assumption) _ | refine Env.farA ?_ (by assumption) _); assumption))) (fun hHeld => ?_)
          refine hTake 0 (by kernel_rfl) (by kernel_rfl) (by kernel_rfl) (by decide) (by assumption) ?_; (intro oi hoi; simp only [List.getElem?_toArray, List.getElem?_cons_zero] at hoi; obtain rfl := Option.some.inj hoi; clear hoi); refine ⟨rfl, ?_⟩; apply Exists.intro; refine ⟨?_, fun _ _ _ h => h, ?_⟩; (intro w hSw; (try dsimp only at hSw); go_simp; (try with_reducible rfl)); (try simp only [Act.put, List.setIfInBounds_toArray, List.set_cons_zero, List.set_cons_succ]); refine hTake 1 (by kernel_rfl) (by kernel_rfl) (by kernel_rfl) (by decide) (by assumption) ?_; (intro oi hoi; simp only [List.getElem?_toArray, List.getElem?_cons_succ, List.getElem?_cons_zero] at hoi; obtain rfl := Option.some.inj hoi; clear hoi); refine ⟨rfl, ?_⟩; apply Exists.intro; refine ⟨?_, fun _ _ _ h => h, ?_⟩; (intro w hSw; (try dsimp only at hSw); go_simp; (try with_reducible rfl)); (try simp only [Act.put, List.setIfInBounds_toArray, List.set_cons_zero, List.set_cons_succ]); refine hTake 2 (by kernel_rfl) (by kernel_rfl) (by kernel_rfl) (by decide) (by assumption) ?_; (intro oi hoi; simp only [List.getElem?_toArray, List.getElem?_cons_succ, List.getElem?_cons_zero] at hoi; obtain rfl := Option.some.inj hoi; clear hoi); refine ⟨rfl, ?_⟩; apply Exists.intro; refine ⟨?_, fun _ _ _ h => h, ?_⟩; (intro w hSw; (try dsimp only at hSw); go_simp; (try with_reducible rfl)); (try simp only [Act.put, List.setIfInBounds_toArray, List.set_cons_zero, List.set_cons_succ])
          refine hSkip 3 (by kernel_rfl) (by kernel_rfl) (by kernel_rfl) (by decide) (by assumption) ?_; (intro oi hoi; simp only [List.getElem?_toArray, List.getElem?_cons_succ, List.getElem?_cons_zero] at hoi; obtain rfl := Option.some.inj hoi; clear hoi); refine ⟨rfl, fun _ _ _ h => h, ?_⟩; (try simp only [Act.put, List.setIfInBounds_toArray, List.set_cons_zero, List.set_cons_succ]); refine hSkip 4 (by kernel_rfl) (by kernel_rfl) (by kernel_rfl) (by decide) (by assumption) ?_; (intro oi hoi; simp only [List.getElem?_toArray, List.getElem?_cons_succ, List.getElem?_cons_zero] at hoi; obtain rfl := Option.some.inj hoi; clear hoi); refine ⟨rfl, fun _ _ _ h => h, ?_⟩; (try simp only [Act.put, List.setIfInBounds_toArray, List.set_cons_zero, List.set_cons_succ]); refine hSkip 5 (by kernel_rfl) (by kernel_rfl) (by kernel_rfl) (by decide) (by assumption) ?_; (intro oi hoi; simp only [List.getElem?_toArray, List.getElem?_cons_succ, List.getElem?_cons_zero] at hoi; obtain rfl := Option.some.inj hoi; clear hoi); refine ⟨rfl, fun _ _ _ h => h, ?_⟩; (try simp only [Act.put, List.setIfInBounds_toArray, List.set_cons_zero, List.set_cons_succ]); refine hSkip 6 (by kernel_rfl) (by kernel_rfl) (by kernel_rfl) (by decide) (by assumption) ?_; (intro oi hoi; simp only [List.getElem?_toArray, List.getElem?_cons_succ, List.getElem?_cons_zero] at hoi; obtain rfl := Option.some.inj hoi; clear hoi); refine ⟨rfl, fun _ _ _ h => h, ?_⟩; (try simp only [Act.put, List.setIfInBounds_toArray, List.set_cons_zero, List.set_cons_succ]); refine hSkip 7 (by kernel_rfl) (by kernel_rfl) (by kernel_rfl) (by decide) (by assumption) ?_; (intro oi hoi; simp only [List.getElem?_toArray, List.getElem?_cons_succ, List.getElem?_cons_zero] at hoi; obtain rfl := Option.some.inj hoi; clear hoi); refine ⟨rfl, fun _ _ _ h => h, ?_⟩; (try simp only [Act.put, List.setIfInBounds_toArray, List.set_cons_zero, List.set_cons_succ]); refine hSkip 8 (by kernel_rfl) (by kernel_rfl) (by kernel_rfl) (by decide) (by assumption) ?_; (intro oi hoi; simp only [List.getElem?_toArray, List.getElem?_cons_succ, List.getElem?_cons_zero] at hoi; obtain rfl := Option.some.inj hoi; clear hoi); refine ⟨rfl, fun _ _ _ h => h, ?_⟩; (try simp only [Act.put, List.setIfInBounds_toArray, List.set_cons_zero, List.set_cons_succ]); refine hSkip 9 (by kernel_rfl) (by kernel_rfl) (by kernel_rfl) (by decide) (by assumption) ?_; (intro oi hoi; simp only [List.getElem?_toArray, List.getElem?_cons_succ, List.getElem?_cons_zero] at hoi; obtain rfl := Option.some.inj hoi; clear hoi); refine ⟨rfl, fun _ _ _ h => h, ?_⟩; (try simp only [Act.put, List.setIfInBounds_toArray, List.set_cons_zero, List.set_cons_succ]); refine hSkip 10 (by kernel_rfl) (by kernel_rfl) (by kernel_rfl) (by decide) (by assumption) ?_; (intro oi hoi; simp only [List.getElem?_toArray, List.getElem?_cons_succ, List.getElem?_cons_zero] at hoi; obtain rfl := Option.some.inj hoi; clear hoi); refine ⟨rfl, fun _ _ _ h => h, ?_⟩; (try simp only [Act.put, List.setIfInBounds_toArray, List.set_cons_zero, List.set_cons_succ]); refine hSkip 11 (by kernel_rfl) (by kernel_rfl) (by kernel_rfl) (by decide) (by assumption) ?_; (intro oi hoi; simp only [List.getElem?_toArray, List.getElem?_cons_succ, List.getElem?_cons_zero] at hoi; obtain rfl := Option.some.inj hoi; clear hoi); refine ⟨rfl, fun _ _ _ h => h, ?_⟩; (try simp only [Act.put, List.setIfInBounds_toArray, List.set_cons_zero, List.set_cons_succ]); refine hSkip 12 (by kernel_rfl) (by kernel_rfl) (by kernel_rfl) (by decide) (by assumption) ?_; (intro oi hoi; simp only [List.getElem?_toArray, List.getElem?_cons_succ, List.getElem?_cons_zero] at hoi; obtain rfl := Option.some.inj hoi; clear hoi); refine ⟨rfl, fun _ _ _ h => h, ?_⟩; (try simp only [Act.put, List.setIfInBounds_toArray, List.set_cons_zero, List.set_cons_succ])
          refine hTake 13 (by kernel_rfl) (by kernel_rfl) (by kernel_rfl) (by decide) (by assumption) ?_; (intro oi hoi; simp only [List.getElem?_toArray, List.getElem?_cons_succ, List.getElem?_cons_zero] at hoi; obtain rfl := Option.some.inj hoi; clear hoi); refine ⟨rfl, ?_⟩; apply Exists.intro; refine ⟨?_, fun _ _ _ h => h, ?_⟩; (intro w hSw; (try dsimp only at hSw); go_simp; (try with_reducible rfl)); (try simp only [Act.put, List.setIfInBounds_toArray, List.set_cons_zero, List.set_cons_succ])
          refine wpAnyH_done (by kernel_rfl) ?_ _
          go_wp2
          go_roundw
          case rel => exact ⟨k + 1, by omega, by go_num, by rw [HTS.out, ← HBZ.out]; unfold Own; rw [HLL.out]; have h := hown; unfold Own at h; rw [HLL.out] at h; exact h, below_drew hbi⟩
          case measure => simp [intOf]; omega
        · obtain ⟨p, hp⟩ : ∃ p, j' = p + 1 := ⟨j' - 1, by omega⟩
          have e4 : IntKind.i64.wrap ((j' : Int) - 1) = (p : Int) := by rw [IntWalk.i64_in _ (by omega)]; omega
          have b3 : decide ((0 : Int) < (j' : Int)) = true := by simp; omega
          have b4 : decide (0 < j') = true := by simp; omega
          have j1 : (0 : Int) ≤ (j' : Int) := by omega
          have j2 : (j' : Int) < (k : Int) + 1 := by omega
          have j3 : (0 : Int) ≤ (p : Int) := by omega
          have j4 : (p : Int) < (k : Int) + 1 := by omega
          obtain ⟨u, hu⟩ : ∃ x, l'[j']? = some x := ⟨_, List.getElem?_eq_getElem (by rw [HLL.out]; omega)⟩
          obtain ⟨y, hy⟩ : ∃ y, l'[p]? = some y := ⟨_, List.getElem?_eq_getElem (by rw [HLL.out]; omega)⟩
          have HU := Lib.hid hu
          have HY := Lib.hid hy
          have HP := Lib.hid hp
          obtain ⟨p1, p2, p3, hgl⟩ := own_tm hown hu
          obtain ⟨q1, q2, q3, -⟩ := own_tm hown hy
          have GU := Lib.hid (getD_some (d := t0) hu)
          have GY := Lib.hid (getD_some (d := t0) hy)
          have hR : ∀ X, Env wr [] X → X.cell? ⟨g, j' * 3, none⟩ = some (.int .i64 u.s) ∧ X.cell? ⟨g, j' * 3 + 1, none⟩ = some (.int .i64 u.e) ∧ X.cell? ⟨g, j' * 3 + 2, none⟩ = some (.int .i64 u.k) ∧
              X.cell? ⟨g, p * 3, none⟩ = some (.int .i64 y.s) ∧ X.cell? ⟨g, p * 3 + 1, none⟩ = some (.int .i64 y.e) ∧ X.cell? ⟨g, p * 3 + 2, none⟩ = some (.int .i64 y.k) := fun X hX =>
            ⟨(hX.1.cell (p := ⟨g, j' * 3, none⟩) hgl).trans p1, (hX.1.cell (p := ⟨g, j' * 3 + 1, none⟩) hgl).trans p2, (hX.1.cell (p := ⟨g, j' * 3 + 2, none⟩) hgl).trans p3,
              (hX.1.cell (p := ⟨g, p * 3, none⟩) hgl).trans q1, (hX.1.cell (p := ⟨g, p * 3 + 1, none⟩) hgl).trans q2, (hX.1.cell (p := ⟨g, p * 3 + 2, none⟩) hgl).trans q3⟩
          have hpk : p < k := by omega
          clear p1 p2 p3 q1 q2 q3 hu hy hp hll
          by_cases hlt2 : tlt u y = true
          · have hst := bub_step (lt := tlt) (d := t0) (l := l') (k := p) (by rw [← HP.out, GU.out, GY.out]; exact hlt2)
            rw [← HP.out] at hst
            have HST := Lib.hid hst
            clear hst
            go_wp2_with fail
            refine wp_region_held_drew (S := Env wr []) (by kernel_rfl) (by (first | assumption | exact Env.step (by assumption) (by assumption) | exact Env.old (by assumption) _ | exact Env.drew hE | exact hE | exact Env.drew (by assumption) | exact Env.drew (Env.old (by assumption) _) | ((repeat first | refine Env.far0 ?_ (by assumption) _ | refine Env.far1 ?_ (by assumption) _ | refine Env.farA ?_ (by assumption) _); assumption))) (fun hHeld => ?_)
            refine hTake 0 (by kernel_rfl) (by kernel_rfl) (by kernel_rfl) (by decide) (by assumption) ?_; (intro oi hoi; simp only [List.getElem?_toArray, List.getElem?_cons_zero] at hoi; obtain rfl := Option.some.inj hoi; clear hoi); refine ⟨rfl, ?_⟩; apply Exists.intro; refine ⟨?_, fun _ _ _ h => h, ?_⟩; (intro w hSw; (try dsimp only at hSw); go_simp; (try with_reducible rfl)); (try simp only [Act.put, List.setIfInBounds_toArray, List.set_cons_zero, List.set_cons_succ]); refine hTake 1 (by kernel_rfl) (by kernel_rfl) (by kernel_rfl) (by decide) (by assumption) ?_; (intro oi hoi; simp only [List.getElem?_toArray, List.getElem?_cons_succ, List.getElem?_cons_zero] at hoi; obtain rfl := Option.some.inj hoi; clear hoi); refine ⟨rfl, ?_⟩; apply Exists.intro; refine ⟨?_, fun _ _ _ h => h, ?_⟩; (intro w hSw; (try dsimp only at hSw); go_simp; (try with_reducible rfl)); (try simp only [Act.put, List.setIfInBounds_toArray, List.set_cons_zero, List.set_cons_succ]); refine hTake 2 (by kernel_rfl) (by kernel_rfl) (by kernel_rfl) (by decide) (by assumption) ?_; (intro oi hoi; simp only [List.getElem?_toArray, List.getElem?_cons_succ, List.getElem?_cons_zero] at hoi; obtain rfl := Option.some.inj hoi; clear hoi); refine ⟨rfl, ?_⟩; apply Exists.intro; refine ⟨?_, fun _ _ _ h => h, ?_⟩; (intro w hSw; (try dsimp only at hSw); go_simp; (try with_reducible rfl)); (try simp only [Act.put, List.setIfInBounds_toArray, List.set_cons_zero, List.set_cons_succ]); refine hTake 3 (by kernel_rfl) (by kernel_rfl) (by kernel_rfl) (by decide) (by assumption) ?_; (intro oi hoi; simp only [List.getElem?_toArray, List.getElem?_cons_succ, List.getElem?_cons_zero] at hoi; obtain rfl := Option.some.inj hoi; clear hoi); refine ⟨rfl, ?_⟩; apply Exists.intro; refine ⟨?_, fun _ _ _ h => h, ?_⟩; (intro w hSw; (try dsimp only at hSw); go_simp; (try with_reducible rfl)); (try simp only [Act.put, List.setIfInBounds_toArray, List.set_cons_zero, List.set_cons_succ]); refine hTake 4 (by kernel_rfl) (by kernel_rfl) (by kernel_rfl) (by decide) (by assumption) ?_; (intro oi hoi; simp only [List.getElem?_toArray, List.getElem?_cons_succ, List.getElem?_cons_zero] at hoi; obtain rfl := Option.some.inj hoi; clear hoi); refine ⟨rfl, ?_⟩; apply Exists.intro; refine ⟨?_, fun _ _ _ h => h, ?_⟩; (intro w hSw; (try dsimp only at hSw); go_simp; (try with_reducible rfl)); (try simp only [Act.put, List.setIfInBounds_toArray, List.set_cons_zero, List.set_cons_succ]); refine hTake 5 (by kernel_rfl) (by kernel_rfl) (by kernel_rfl) (by decide) (by assumption) ?_; (intro oi hoi; simp only [List.getElem?_toArray, List.getElem?_cons_succ, List.getElem?_cons_zero] at hoi; obtain rfl := Option.some.inj hoi; clear hoi); refine ⟨rfl, ?_⟩; apply Exists.intro; refine ⟨?_, fun _ _ _ h => h, ?_⟩; (intro w hSw; (try dsimp only at hSw); go_simp; (try with_reducible rfl)); (try simp only [Act.put, List.setIfInBounds_toArray, List.set_cons_zero, List.set_cons_succ]); refine hTake 6 (by kernel_rfl) (by kernel_rfl) (by kernel_rfl) (by decide) (by assumption) ?_; (intro oi hoi; simp only [List.getElem?_toArray, List.getElem?_cons_succ, List.getElem?_cons_zero] at hoi; obtain rfl := Option.some.inj hoi; clear hoi); refine ⟨rfl, ?_⟩; apply Exists.intro; refine ⟨?_, fun _ _ _ h => h, ?_⟩; (intro w hSw; (try dsimp only at hSw); go_simp; (try with_reducible rfl)); (try simp only [Act.put, List.setIfInBounds_toArray, List.set_cons_zero, List.set_cons_succ]); refine hTake 7 (by kernel_rfl) (by kernel_rfl) (by kernel_rfl) (by decide) (by assumption) ?_; (intro oi hoi; simp only [List.getElem?_toArray, List.getElem?_cons_succ, List.getElem?_cons_zero] at hoi; obtain rfl := Option.some.inj hoi; clear hoi); refine ⟨rfl, ?_⟩; apply Exists.intro; refine ⟨?_, fun _ _ _ h => h, ?_⟩; (intro w hSw; (try dsimp only at hSw); go_simp; (try with_reducible rfl)); (try simp only [Act.put, List.setIfInBounds_toArray, List.set_cons_zero, List.set_cons_succ]); refine hTake 8 (by kernel_rfl) (by kernel_rfl) (by kernel_rfl) (by decide) (by assumption) ?_; (intro oi hoi; simp only [List.getElem?_toArray, List.getElem?_cons_succ, List.getElem?_cons_zero] at hoi; obtain rfl := Option.some.inj hoi; clear hoi); refine ⟨rfl, ?_⟩; apply Exists.intro; refine ⟨?_, fun _ _ _ h => h, ?_⟩; (intro w hSw; (try dsimp only at hSw); go_simp; (try with_reducible rfl)); (try simp only [Act.put, List.setIfInBounds_toArray, List.set_cons_zero, List.set_cons_succ]); refine hTake 9 (by kernel_rfl) (by kernel_rfl) (by kernel_rfl) (by decide) (by assumption) ?_; (intro oi hoi; simp only [List.getElem?_toArray, List.getElem?_cons_succ, List.getElem?_cons_zero] at hoi; obtain rfl := Option.some.inj hoi; clear hoi); refine ⟨rfl, ?_⟩; apply Exists.intro; refine ⟨?_, fun _ _ _ h => h, ?_⟩; (intro w hSw; (try dsimp only at hSw); go_simp; (try with_reducible rfl)); (try simp only [Act.put, List.setIfInBounds_toArray, List.set_cons_zero, List.set_cons_succ]); refine hTake 10 (by kernel_rfl) (by kernel_rfl) (by kernel_rfl) (by decide) (by assumption) ?_; (intro oi hoi; simp only [List.getElem?_toArray, List.getElem?_cons_succ, List.getElem?_cons_zero] at hoi; obtain rfl := Option.some.inj hoi; clear hoi); refine ⟨rfl, ?_⟩; apply Exists.intro; refine ⟨?_, fun _ _ _ h => h, ?_⟩; (intro w hSw; (try dsimp only at hSw); go_simp; (try with_reducible rfl)); (try simp only [Act.put, List.setIfInBounds_toArray, List.set_cons_zero, List.set_cons_succ]); refine hTake 11 (by kernel_rfl) (by kernel_rfl) (by kernel_rfl) (by decide) (by assumption) ?_; (intro oi hoi; simp only [List.getElem?_toArray, List.getElem?_cons_succ, List.getElem?_cons_zero] at hoi; obtain rfl := Option.some.inj hoi; clear hoi); refine ⟨rfl, ?_⟩; apply Exists.intro; refine ⟨?_, fun _ _ _ h => h, ?_⟩; (intro w hSw; (try dsimp only at hSw); go_simp; (try with_reducible rfl)); (try simp only [Act.put, List.setIfInBounds_toArray, List.set_cons_zero, List.set_cons_succ])
            refine hOnly 12 (by kernel_rfl) (by decide) ?_; (intro oi hoi; simp only [List.getElem?_toArray, List.getElem?_cons_succ, List.getElem?_cons_zero] at hoi; obtain rfl := Option.some.inj hoi; clear hoi); intro K hK; go_simp
            go_at_call 29
            refine (rtless_any u y _).mono ?_
            rw [hlt2]
            rintro e w6 ⟨rfl, hb6⟩
            have hEhb6 := Env.step hb6 (by assumption); (try (have hqhb6 := (by with_reducible first | exact Loc.below hb6 (Loc.new (Loc.nil _) _ _) | exact Loc.below hb6 (Loc.drew (Loc.new (Loc.nil _) _ _)) | exact Loc.below hb6 (by assumption : Loc _ [_])); (repeat rw [World.size_drew] at hqhb6); (repeat rw [World.size_alloc] at hqhb6); have hrhb6 := hqhb6; (repeat unfold Loc at hrhb6)))
            (refine hK.out _ _ (by (first | assumption | exact Env.step (by assumption) (by assumption) | exact Env.old (by assumption) _ | exact Env.drew hE | exact hE | exact Env.drew (by assumption) | exact Env.drew (Env.old (by assumption) _) | ((repeat first | refine Env.far0 ?_ (by assumption) _ | refine Env.far1 ?_ (by assumption) _ | refine Env.farA ?_ (by assumption) _); assumption))) (fun hHeld => ?_); clear hK K; (try simp only [Act.put, List.setIfInBounds_toArray, List.set_cons_zero, List.set_cons_succ]))
            refine hTake 13 (by kernel_rfl) (by kernel_rfl) (by kernel_rfl) (by decide) (by assumption) ?_; (intro oi hoi; simp only [List.getElem?_toArray, List.getElem?_cons_succ, List.getElem?_cons_zero] at hoi; obtain rfl := Option.some.inj hoi; clear hoi); refine ⟨rfl, ?_⟩; apply Exists.intro; refine ⟨?_, fun _ _ _ h => h, ?_⟩; (intro w hSw; (try dsimp only at hSw); go_simp; (try with_reducible rfl)); (try simp only [Act.put, List.setIfInBounds_toArray, List.set_cons_zero, List.set_cons_succ])
            refine wpAnyH_done (by kernel_rfl) ?_ _
            have hown6 := hown.below hHeld.1
            have hb7 := below_then hbi hHeld.1
            obtain ⟨p1, p2, p3, -⟩ := own_tm hown6 HU.out
            obtain ⟨q1, q2, q3, -⟩ := own_tm hown6 HY.out
            have frz := own_frz hown6 HLL.out.symm
            have hsw : sw t0 l' j' p = (l'.set j' y).set p u := by unfold sw; rw [GU.out, GY.out]
            have HSW := Lib.hid hsw
            have hne : j' ≠ p := by have := HP.out; omega
            clear hsw hR hE hHeld
            go_wp2
            go_region
            all_goals
              go_wp2
              go_roundw
              case rel => exact ⟨p, sw t0 l' j' p, by go_num, by rw [sw_length, HLL.out], by omega, by rw [← HST.out, HBB.out], by rw [HSW.out]; exact own_drew (Own.set tenc_len (Own.set tenc_len hown6 HLL.out.symm j' (by rw [HLL.out]; omega) y).1 (by simp [HLL.out]) p (by simp; rw [HLL.out]; omega) u).1, (by repeat (first | with_reducible exact Below.refl _ _ | with_reducible assumption | (with_reducible exact Env.below (by assumption)) | (with_reducible refine below_new ?_ _) | (with_reducible refine below_drew ?_) | (with_reducible refine below_drewN ?_ _) | (with_reducible refine below_put ?_ ?_ _; rotate_left 1; (dsimp only; omega)) | (with_reducible refine below_then ?_ (by assumption))))⟩
              case measure => have := HP.out; simp [intOf]; omega
          · have hlt' : tlt u y = false := by simpa using hlt2
            have hz : l' = bub tlt t0 k (S ++ [x]) := by rw [← HBB.out, HP.out]; exact (bub_stop (lt := tlt) (d := t0) (l := l') (k := p) (by rw [← HP.out, GU.out, GY.out]; exact hlt')).symm
            have HZ := Lib.hid hz
            clear hz hlt2
            go_wp2_with fail
            refine wp_region_held_drew (S := Env wr []) (by kernel_rfl) (by (first | assumption | exact Env.step (by assumption) (by assumption) | exact Env.old (by assumption) _ | exact Env.drew hE | exact hE | exact Env.drew (by assumption) | exact Env.drew (Env.old (by assumption) _) | ((repeat first | refine Env.far0 ?_ (by assumption) _ | refine Env.far1 ?_ (by assumption) _ | refine Env.farA ?_ (by assumption) _); assumption))) (fun hHeld => ?_)
            refine hTake 0 (by kernel_rfl) (by kernel_rfl) (by kernel_rfl) (by decide) (by assumption) ?_; (intro oi hoi; simp only [List.getElem?_toArray, List.getElem?_cons_zero] at hoi; obtain rfl := Option.some.inj hoi; clear hoi); refine ⟨rfl, ?_⟩; apply Exists.intro; refine ⟨?_, fun _ _ _ h => h, ?_⟩; (intro w hSw; (try dsimp only at hSw); go_simp; (try with_reducible rfl)); (try simp only [Act.put, List.setIfInBounds_toArray, List.set_cons_zero, List.set_cons_succ]); refine hTake 1 (by kernel_rfl) (by kernel_rfl) (by kernel_rfl) (by decide) (by assumption) ?_; (intro oi hoi; simp only [List.getElem?_toArray, List.getElem?_cons_succ, List.getElem?_cons_zero] at hoi; obtain rfl := Option.some.inj hoi; clear hoi); refine ⟨rfl, ?_⟩; apply Exists.intro; refine ⟨?_, fun _ _ _ h => h, ?_⟩; (intro w hSw; (try dsimp only at hSw); go_simp; (try with_reducible rfl)); (try simp only [Act.put, List.setIfInBounds_toArray, List.set_cons_zero, List.set_cons_succ]); refine hTake 2 (by kernel_rfl) (by kernel_rfl) (by kernel_rfl) (by decide) (by assumption) ?_; (intro oi hoi; simp only [List.getElem?_toArray, List.getElem?_cons_succ, List.getElem?_cons_zero] at hoi; obtain rfl := Option.some.inj hoi; clear hoi); refine ⟨rfl, ?_⟩; apply Exists.intro; refine ⟨?_, fun _ _ _ h => h, ?_⟩; (intro w hSw; (try dsimp only at hSw); go_simp; (try with_reducible rfl)); (try simp only [Act.put, List.setIfInBounds_toArray, List.set_cons_zero, List.set_cons_succ]); refine hTake 3 (by kernel_rfl) (by kernel_rfl) (by kernel_rfl) (by decide) (by assumption) ?_; (intro oi hoi; simp only [List.getElem?_toArray, List.getElem?_cons_succ, List.getElem?_cons_zero] at hoi; obtain rfl := Option.some.inj hoi; clear hoi); refine ⟨rfl, ?_⟩; apply Exists.intro; refine ⟨?_, fun _ _ _ h => h, ?_⟩; (intro w hSw; (try dsimp only at hSw); go_simp; (try with_reducible rfl)); (try simp only [Act.put, List.setIfInBounds_toArray, List.set_cons_zero, List.set_cons_succ]); refine hTake 4 (by kernel_rfl) (by kernel_rfl) (by kernel_rfl) (by decide) (by assumption) ?_; (intro oi hoi; simp only [List.getElem?_toArray, List.getElem?_cons_succ, List.getElem?_cons_zero] at hoi; obtain rfl := Option.some.inj hoi; clear hoi); refine ⟨rfl, ?_⟩; apply Exists.intro; refine ⟨?_, fun _ _ _ h => h, ?_⟩; (intro w hSw; (try dsimp only at hSw); go_simp; (try with_reducible rfl)); (try simp only [Act.put, List.setIfInBounds_toArray, List.set_cons_zero, List.set_cons_succ]); refine hTake 5 (by kernel_rfl) (by kernel_rfl) (by kernel_rfl) (by decide) (by assumption) ?_; (intro oi hoi; simp only [List.getElem?_toArray, List.getElem?_cons_succ, List.getElem?_cons_zero] at hoi; obtain rfl := Option.some.inj hoi; clear hoi); refine ⟨rfl, ?_⟩; apply Exists.intro; refine ⟨?_, fun _ _ _ h => h, ?_⟩; (intro w hSw; (try dsimp only at hSw); go_simp; (try with_reducible rfl)); (try simp only [Act.put, List.setIfInBounds_toArray, List.set_cons_zero, List.set_cons_succ]); refine hTake 6 (by kernel_rfl) (by kernel_rfl) (by kernel_rfl) (by decide) (by assumption) ?_; (intro oi hoi; simp only [List.getElem?_toArray, List.getElem?_cons_succ, List.getElem?_cons_zero] at hoi; obtain rfl := Option.some.inj hoi; clear hoi); refine ⟨rfl, ?_⟩; apply Exists.intro; refine ⟨?_, fun _ _ _ h => h, ?_⟩; (intro w hSw; (try dsimp only at hSw); go_simp; (try with_reducible rfl)); (try simp only [Act.put, List.setIfInBounds_toArray, List.set_cons_zero, List.set_cons_succ]); refine hTake 7 (by kernel_rfl) (by kernel_rfl) (by kernel_rfl) (by decide) (by assumption) ?_; (intro oi hoi; simp only [List.getElem?_toArray, List.getElem?_cons_succ, List.getElem?_cons_zero] at hoi; obtain rfl := Option.some.inj hoi; clear hoi); refine ⟨rfl, ?_⟩; apply Exists.intro; refine ⟨?_, fun _ _ _ h => h, ?_⟩; (intro w hSw; (try dsimp only at hSw); go_simp; (try with_reducible rfl)); (try simp only [Act.put, List.setIfInBounds_toArray, List.set_cons_zero, List.set_cons_succ]); refine hTake 8 (by kernel_rfl) (by kernel_rfl) (by kernel_rfl) (by decide) (by assumption) ?_; (intro oi hoi; simp only [List.getElem?_toArray, List.getElem?_cons_succ, List.getElem?_cons_zero] at hoi; obtain rfl := Option.some.inj hoi; clear hoi); refine ⟨rfl, ?_⟩; apply Exists.intro; refine ⟨?_, fun _ _ _ h => h, ?_⟩; (intro w hSw; (try dsimp only at hSw); go_simp; (try with_reducible rfl)); (try simp only [Act.put, List.setIfInBounds_toArray, List.set_cons_zero, List.set_cons_succ]); refine hTake 9 (by kernel_rfl) (by kernel_rfl) (by kernel_rfl) (by decide) (by assumption) ?_; (intro oi hoi; simp only [List.getElem?_toArray, List.getElem?_cons_succ, List.getElem?_cons_zero] at hoi; obtain rfl := Option.some.inj hoi; clear hoi); refine ⟨rfl, ?_⟩; apply Exists.intro; refine ⟨?_, fun _ _ _ h => h, ?_⟩; (intro w hSw; (try dsimp only at hSw); go_simp; (try with_reducible rfl)); (try simp only [Act.put, List.setIfInBounds_toArray, List.set_cons_zero, List.set_cons_succ]); refine hTake 10 (by kernel_rfl) (by kernel_rfl) (by kernel_rfl) (by decide) (by assumption) ?_; (intro oi hoi; simp only [List.getElem?_toArray, List.getElem?_cons_succ, List.getElem?_cons_zero] at hoi; obtain rfl := Option.some.inj hoi; clear hoi); refine ⟨rfl, ?_⟩; apply Exists.intro; refine ⟨?_, fun _ _ _ h => h, ?_⟩; (intro w hSw; (try dsimp only at hSw); go_simp; (try with_reducible rfl)); (try simp only [Act.put, List.setIfInBounds_toArray, List.set_cons_zero, List.set_cons_succ]); refine hTake 11 (by kernel_rfl) (by kernel_rfl) (by kernel_rfl) (by decide) (by assumption) ?_; (intro oi hoi; simp only [List.getElem?_toArray, List.getElem?_cons_succ, List.getElem?_cons_zero] at hoi; obtain rfl := Option.some.inj hoi; clear hoi); refine ⟨rfl, ?_⟩; apply Exists.intro; refine ⟨?_, fun _ _ _ h => h, ?_⟩; (intro w hSw; (try dsimp only at hSw); go_simp; (try with_reducible rfl)); (try simp only [Act.put, List.setIfInBounds_toArray, List.set_cons_zero, List.set_cons_succ])
            refine hOnly 12 (by kernel_rfl) (by decide) ?_; (intro oi hoi; simp only [List.getElem?_toArray, List.getElem?_cons_succ, List.getElem?_cons_zero] at hoi; obtain rfl := Option.some.inj hoi; clear hoi); intro K hK; go_simp
            go_at_call 29
            refine (rtless_any u y _).mono ?_
            rw [hlt']
            rintro e w6 ⟨rfl, hb6⟩
            have hEhb6 := Env.step hb6 (by assumption); (try (have hqhb6 := (by with_reducible first | exact Loc.below hb6 (Loc.new (Loc.nil _) _ _) | exact Loc.below hb6 (Loc.drew (Loc.new (Loc.nil _) _ _)) | exact Loc.below hb6 (by assumption : Loc _ [_])); (repeat rw [World.size_drew] at hqhb6); (repeat rw [World.size_alloc] at hqhb6); have hrhb6 := hqhb6; (repeat unfold Loc at hrhb6)))
            (refine hK.out _ _ (by (first | assumption | exact Env.step (by assumption) (by assumption) | exact Env.old (by assumption) _ | exact Env.drew hE | exact hE | exact Env.drew (by assumption) | exact Env.drew (Env.old (by assumption) _) | ((repeat first | refine Env.far0 ?_ (by assumption) _ | refine Env.far1 ?_ (by assumption) _ | refine Env.farA ?_ (by assumption) _); assumption))) (fun hHeld => ?_); clear hK K; (try simp only [Act.put, List.setIfInBounds_toArray, List.set_cons_zero, List.set_cons_succ]))
            refine hTake 13 (by kernel_rfl) (by kernel_rfl) (by kernel_rfl) (by decide) (by assumption) ?_; (intro oi hoi; simp only [List.getElem?_toArray, List.getElem?_cons_succ, List.getElem?_cons_zero] at hoi; obtain rfl := Option.some.inj hoi; clear hoi); refine ⟨rfl, ?_⟩; apply Exists.intro; refine ⟨?_, fun _ _ _ h => h, ?_⟩; (intro w hSw; (try dsimp only at hSw); go_simp; (try with_reducible rfl)); (try simp only [Act.put, List.setIfInBounds_toArray, List.set_cons_zero, List.set_cons_succ])
            refine wpAnyH_done (by kernel_rfl) ?_ _
            have hown6 := hown.below hHeld.1
            have hb7 := below_then hbi hHeld.1
            clear hR hE hHeld
            go_wp2
            go_roundw
            case rel => exact ⟨k + 1, by omega, by go_num, by rw [HTS.out, ← HZ.out]; unfold Own; rw [HLL.out]; have h := hown6; unfold Own at h; rw [HLL.out] at h; exact h, hb7⟩
            case measure => simp [intOf]; omega
    · have hkn : k = n := by omega
      rw [hkn, List.take_of_length_le (by rw [HN.out]; exact Nat.le_refl _)] at howo
      have b1 : decide ((k : Int) < (n : Int)) = false := by simp; omega
      have b2 : decide (k < n) = false := by simp [hlt]
      clear hkn
      go_wp2
      go_ret
      exact ⟨_, rfl, howo, hb⟩
end Go.Proofs.Ytffehibdeogjeaa

/- The contract of the reference's Until (chapter 18). Condition: a list that lies at an address, of at most 2^40 timers. -/
namespace Go.Proofs.Ytffehibdeogjeaa
open Go.RowKit

theorem own_apart2' {α : Type} {enc : α → List Value} {sz : Nat} {w W : World} {base : Nat} {e : TypeId} {u v : Value} {l m : List α} (hu : Own enc sz W w.heap.size e u l) (hv : Own enc sz w base e v m) : ∀ k, v.ownBlock = some k → u.ownBlock ≠ some k := by
  intro k h1 h2
  have := (World.ownsRow.lt hv k h1).2
  have := (World.ownsRow.lt hu k h2).1
  omega

set_option maxHeartbeats 8000000 in
set_option maxRecDepth 100000 in
theorem runtil_any (b off c : Nat) (l : List Tm) (mark : Int) (w : World) (hn : l.length ≤ 1099511627776) (hbB : b < w.heap.size) (hr : Rd tenc 3 w w.heap.size (some ⟨b, off, none⟩) l) :
    Calls Try.prog 34 #[.slice (some ⟨b, off, none⟩) l.length c, .int .i64 mark] w fun e w' =>
      ∃ v u, e = .returned (.tuple #[v, u, .int .i64 (tuntil l mark).2.2]) ∧ Own tenc 3 w' w.heap.size 34 v (tuntil l mark).1 ∧ Own tenc 3 w' w.heap.size 34 u (tuntil l mark).2.1 ∧ Below w.heap.size w w' := by
  have hck := fun W (h : Rd tenc 3 W W.heap.size (some ⟨b, off, none⟩) l) => rtcheck_any (some ⟨b, off, none⟩) c l W hn h
  have hflat := rd_flat tenc_len hr
  obtain ⟨n, hn'⟩ : ∃ n, n = l.length := ⟨_, rfl⟩
  rw [← hn'] at hn hck ⊢
  have HN := Lib.hid hn'; have HCK := Lib.hid hck; have HF := Lib.hid hflat
  clear hn' hck hflat
  have hL : Loc w [] := trivial
  obtain ⟨q, hq⟩ : ∃ q, q = tck l := ⟨_, rfl⟩
  have HQ := Lib.hid hq
  by_cases h0 : q = 0
  · have b0 : (q != 0) = false := by simp [h0]
    obtain ⟨U, hU⟩ : ∃ U, U = untilL tlt t0 (fun t => decide (t.e ≤ mark)) l.length l := ⟨_, rfl⟩
    have hs : tuntil l mark = (U.1, U.2, 0) := by unfold tuntil; rw [if_neg (by rw [← hq, h0]; simp), hU]
    have HS := Lib.hid hs; have HU := Lib.hid hU
    obtain ⟨i0, hi0, hz0, hz1, hz2⟩ := info_parts tm_info
    clear hs h0 hq hU
    go_enter Try.func34, Try.ntmps34
    go_wp2_with (first
      | (go_at_call 22; refine (HCK.out _ (rd_grown hr (by repeat (first | with_reducible exact Below.refl _ _ | with_reducible assumption | (with_reducible exact Env.below (by assumption)) | (with_reducible refine below_new ?_ _) | (with_reducible refine below_drew ?_) | (with_reducible refine below_drewN ?_ _) | (with_reducible refine below_put ?_ ?_ _; rotate_left 1; (dsimp only; omega)) | (with_reducible refine below_then ?_ (by assumption)))))).mono ?_; rw [← HQ.out]; rintro e w1 ⟨rfl, hb1⟩; replace hL := (by with_reducible first | exact hL.below hb1 | exact (hL.new _ _).below hb1 | exact ((hL.new _ _).new _ _).below hb1 | exact (((hL.new _ _).new _ _).new _ _).below hb1 | exact ((((hL.new _ _).new _ _).new _ _).new _ _).below hb1); (repeat rw [World.size_alloc] at hL); have hF := hL; (repeat unfold Loc at hF))
      | (at_builtin; refine wpList_append_list rfl (.tmp 15) (.tmp 16) 22 rfl w1.heap.size 34 i0 (.agg #[.int .i64 0, .int .i64 0, .int .i64 0]) 3 24 Try.underlying22 hi0 hz0 hz1 hz2 rfl (by decide) tenc tenc_len (.slice (some ⟨w1.heap.size, 0, none⟩) 0 0) [] l rfl (Own.made (enc := tenc) (sz := 3) tenc_len w1 w1.heap.size 34 [] w1.heap.size rfl (Nat.le_refl _) (by simp [maxLen])) ⟨b, off, none⟩ n c rfl HN.out.symm (fun j u hj => (Below.cell (p := (⟨b, off, none⟩ : Addr).add j) (below_new hb1 _) (by unfold Addr.add; split <;> simpa using hbB)).trans (HF.out j u hj)) (tenc_one _) (by unfold maxLen; simp; omega) (by simp; omega) (by simp) ?_; intro v w2 hown2 hgrow hbel; rw [List.nil_append] at hown2; obtain ⟨Av, cv, hv⟩ := own_shape hown2; rw [← HN.out] at hv; subst hv; have hb2 : Below w1.heap.size w1 w2 := ((Below.refl _ _).alloc (Nat.le_refl _) _).trans hbel; clear hgrow hbel))
    have hbw : Below w.heap.size w w1 := (by repeat (first | with_reducible exact Below.refl _ _ | with_reducible assumption | (with_reducible exact Env.below (by assumption)) | (with_reducible refine below_new ?_ _) | (with_reducible refine below_drew ?_) | (with_reducible refine below_drewN ?_ _) | (with_reducible refine below_put ?_ ?_ _; rotate_left 1; (dsimp only; omega)) | (with_reducible refine below_then ?_ (by assumption))))
    clear hF hL hb1 hr
    go_loopw [8, 9] (fun o r wr => ∃ (f n' cr : Nat) (Ar : Option Addr) (os rs : List Tm), r = .slice Ar n' cr ∧ rs.length = n' ∧ n' ≤ f ∧ os.length + n' = n ∧
      (os ++ (untilL tlt t0 (fun t => decide (t.e ≤ mark)) f rs).1, (untilL tlt t0 (fun t => decide (t.e ≤ mark)) f rs).2) = U ∧ Own tenc 3 wr w1.heap.size 34 (.slice Ar n' cr) rs ∧
      Own tenc 3 wr w1.heap.size 34 o os ∧ (∀ k, o.ownBlock = some k → (Value.slice Ar n' cr).ownBlock ≠ some k) ∧ Below w1.heap.size w1 wr) (fun _ r _ => lenV r)
    case atStart => exact ⟨n, n, cv, Av, [], l, rfl, HN.out.symm, Nat.le_refl _, by simp, by rw [HU.out, ← HN.out]; rfl, hown2, Own.nil _ _ _, by intro k hk; simp [Value.ownBlock] at hk, hb2⟩
    case round =>
      obtain ⟨f, n', cr, Ar, os, rs, rfl, hrl, hnf, hol, hun, hown, howo, hdis, hb⟩ := hrel
      have HRL := Lib.hid hrl
      have HUN := Lib.hid hun
      by_cases hz : n' = 0
      · have b1 : decide ((0 : Int) < (n' : Int)) = false := by simp [hz]
        have b2 : decide (0 < n') = false := by simp [hz]
        have hrs : rs = [] := List.eq_nil_of_length_eq_zero (by rw [hrl, hz])
        have hu : (os, rs) = U := by rw [← hun, hrs, untilL_nil]; simp
        have HUU := Lib.hid hu
        clear hz hrs hu hun hrl
        go_wp2
        go_ret3
        rw [HS.out]
        exact ⟨_, _, rfl, by rw [← HUU.out]; exact howo.mono hbw.size, by rw [← HUU.out]; exact hown.mono hbw.size, hbw.trans (hb.mono hbw.size)⟩
      · obtain ⟨x, hx⟩ : ∃ x, rs[0]? = some x := ⟨_, List.getElem?_eq_getElem (by omega)⟩
        obtain ⟨m, hm⟩ : ∃ m, n' = m + 1 := ⟨n' - 1, by omega⟩
        obtain ⟨g, cap, hv, hbg, hglt⟩ := World.ownsRow.form hown (by omega)
        simp only [Value.slice.injEq] at hv
        obtain ⟨rfl, -, rfl⟩ := hv
        have hcap := own_cap hown hrl.symm
        obtain ⟨c1, c2, c3, -⟩ := own_tm hown hx
        rw [Nat.zero_mul] at c1
        rw [Nat.zero_mul, Nat.zero_add] at c2 c3
        have b1 : decide ((0 : Int) < (n' : Int)) = true := by simp; omega
        have b2 : decide (0 < n') = true := by simp; omega
        have j1 : (0 : Int) < (n' : Int) := by omega
        have j2 : 0 < n' := by omega
        have HX := Lib.hid hx; have HM := Lib.hid hm
        have HD := Lib.hid hdis
        by_cases hle : x.e ≤ mark
        · obtain ⟨f', e1, e2⟩ := untilL_step (lt := tlt) (d := t0) (p := fun t => decide (t.e ≤ mark)) (n := f) hx (by omega) (by simp [hle])
          have b3 : decide (x.e ≤ mark) = true := by simp [hle]
          rw [popL_length, hrl, hm] at e2
          have E1 := Lib.hid e1
          have hmn : m < n' := by omega
          have hon : os.length + 1 + m = n := by omega
          have hpp : ∀ W, g < W.heap.size → Rd tenc 3 W W.heap.size (some ⟨g, 0, none⟩) rs → Calls Try.prog 78 #[.slice (some ⟨g, 0, none⟩) n' cr] W fun e w' => ∃ v, e = .returned v ∧ Own tenc 3 w' W.heap.size 34 v (popL tlt t0 rs) ∧ Below W.heap.size W w' := by
            intro W h1 h2
            have := rpopped_any g 0 cr m rs W (by omega) (by omega) (by omega) h1 h2
            rwa [← hm] at this
          have HPP := Lib.hid hpp
          clear e1 hx hm hrl hun hz hdis hpp
          go_wp2_with (first
            | (at_builtin; refine wpList_append_elem rfl _ _ 22 rfl w1.heap.size 34 i0 (.agg #[.int .i64 0, .int .i64 0, .int .i64 0]) 3 24 Try.underlying22 hi0 hz0 hz1 hz2 rfl (by decide) tenc tenc_len _ _ x rfl (howo.alloc (.cells #[.int .i64 x.s, .int .i64 x.e, .int .i64 x.k] 34)) ⟨wr.heap.size, 0, none⟩ 1 rfl (by intro j u hj; exact tm_new _ x 34 wr.heap.size rfl j u (by simpa using hj)) (tm_one x) (by unfold maxLen; omega) (by omega) (by have := hb.size; simp; omega) ?_; intro v' w5 hown' hgrow hbel; have hb5 : Below w1.heap.size w1 w5 := (hb.alloc hb.size _).trans hbel; have hown5 := (hown.alloc (.cells #[.int .i64 x.s, .int .i64 x.e, .int .i64 x.k] 34)).grown hgrow (.inr (fun e => HD.out g e.symm rfl)); have hs5 := hgrow.size; rw [World.size_alloc] at hs5; clear hgrow hbel)
            | (go_at_call 78; refine (HPP.out _ (by omega) (Own.rd tenc_len hown5)).mono ?_; rintro e w6 ⟨v6, rfl, hown6, hb6⟩))
          obtain ⟨A6, c6, hv6⟩ := own_shape hown6
          rw [popL_length, HRL.out, HM.out] at hv6
          simp only [Nat.add_sub_cancel] at hv6
          subst hv6
          go_wp2
          go_roundw
          case rel => exact ⟨f', m, c6, A6, os ++ [x], popL tlt t0 rs, rfl, by rw [popL_length, HRL.out, HM.out]; rfl, e2, by simp; omega, by rw [← HUN.out, E1.out]; simp, hown6.mono hb5.size, hown'.below hb6, own_apart2' hown6 hown', hb5.trans (hb6.mono hb5.size)⟩
          case measure => exact hmn
        · have b3 : decide (x.e ≤ mark) = false := by simp [hle]
          have hu : (os, rs) = U := by rw [← hun, untilL_stop _ hx (by simp [hle])]; simp
          have HUU := Lib.hid hu
          clear hu hun hrl hx hm
          go_wp2
          go_ret3
          rw [HS.out]
          exact ⟨_, _, rfl, by rw [← HUU.out]; exact howo.mono hbw.size, by rw [← HUU.out]; exact hown.mono hbw.size, hbw.trans (hb.mono hbw.size)⟩
  · have b0 : (q != 0) = true := by simp [h0]
    have hs : tuntil l mark = ([], [], q) := by unfold tuntil; rw [if_pos (by rw [← hq]; exact h0), ← hq]
    have HS := Lib.hid hs
    clear hs h0 hq
    go_enter Try.func34, Try.ntmps34
    go_wp2_with (first
      | (go_at_call 22; refine (HCK.out _ (rd_grown hr (by repeat (first | with_reducible exact Below.refl _ _ | with_reducible assumption | (with_reducible exact Env.below (by assumption)) | (with_reducible refine below_new ?_ _) | (with_reducible refine below_drew ?_) | (with_reducible refine below_drewN ?_ _) | (with_reducible refine below_put ?_ ?_ _; rotate_left 1; (dsimp only; omega)) | (with_reducible refine below_then ?_ (by assumption)))))).mono ?_; rw [← HQ.out]; rintro e w1 ⟨rfl, hb1⟩; replace hL := (by with_reducible first | exact hL.below hb1 | exact (hL.new _ _).below hb1 | exact ((hL.new _ _).new _ _).below hb1 | exact (((hL.new _ _).new _ _).new _ _).below hb1 | exact ((((hL.new _ _).new _ _).new _ _).new _ _).below hb1); (repeat rw [World.size_alloc] at hL); have hF := hL; (repeat unfold Loc at hF)))
    go_ret3
    exact ⟨.slice none 0 0, .slice none 0 0, by simp [HS.out], by rw [HS.out]; exact Own.nil _ _ _, by rw [HS.out]; exact Own.nil _ _ _, (by repeat (first | with_reducible exact Below.refl _ _ | with_reducible assumption | (with_reducible exact Env.below (by assumption)) | (with_reducible refine below_new ?_ _) | (with_reducible refine below_drew ?_) | (with_reducible refine below_drewN ?_ _) | (with_reducible refine below_put ?_ ?_ _; rotate_left 1; (dsimp only; omega)) | (with_reducible refine below_then ?_ (by assumption))))⟩
end Go.Proofs.Ytffehibdeogjeaa

/- The contracts of the laws' helpers (chapter 18): at, keys, few, pushed. Condition: lists of at most 2^40 timers. -/
namespace Go.Proofs.Ytffehibdeogjeaa
open Go.RowKit

theorem at_any (e k : Int) (w : World) : Calls Try.prog 35 #[.int .i64 e, .int .i64 k] w fun r w' => r = .returned (.agg #[.int .i64 0, .int .i64 e, .int .i64 k]) ∧ Below w.heap.size w w' := by
  go_enter Try.func35, Try.ntmps35
  go_wp2
  refine bodyPost_ret (v := _) (by rw [results_cell1 Try.results35]; go_simp) rfl ⟨rfl, (by repeat (first | with_reducible exact Below.refl _ _ | with_reducible assumption | (with_reducible exact Env.below (by assumption)) | (with_reducible refine below_new ?_ _) | (with_reducible refine below_drew ?_) | (with_reducible refine below_drewN ?_ _) | (with_reducible refine below_put ?_ ?_ _; rotate_left 1; (dsimp only; omega)) | (with_reducible refine below_then ?_ (by assumption))))⟩

set_option maxHeartbeats 4000000 in
theorem keys_any (A A' : Option Addr) (c c' n n' : Nat) (l : List Tm) (ks : List Int) (w : World) {B B' : Nat} (hln : l.length = n) (hkn : ks.length = n') (hl : Rd tenc 3 w B A l) (hk : Rd ienc 1 w B' A' ks) (hn : n ≤ 1099511627776) :
    Calls Try.prog 36 #[.slice A n c, .slice A' n' c'] w fun e w' => e = .returned (.bool (decide (l.map Tm.k = ks))) ∧ Below w.heap.size w w' := by
  have HL := Lib.hid hln; have HK := Lib.hid hkn
  clear hln hkn
  go_enter Try.func36, Try.ntmps36
  go_wp2
  go_loopw [5] (fun i wr => ∃ k : Nat, k ≤ n ∧ k ≤ n' ∧ i = .int .i64 k ∧ (l.take k).map Tm.k = ks.take k ∧ ∃ q : Nat, wr = w.drewN q) (fun i _ => n - (intOf i).toNat)
  case atStart => exact ⟨0, Nat.zero_le _, Nat.zero_le _, rfl, by simp, 0, rfl⟩
  case round =>
    obtain ⟨k, hk1, hk2, rfl, hall, q, rfl⟩ := hrel
    have HA := Lib.hid hall
    clear hall
    by_cases h1 : k < n
    · have b1 : decide ((k : Int) < (n : Int)) = true := by simp; omega
      have b1' : decide (k < n) = true := by simp [h1]
      by_cases h2 : k < n'
      · have b2 : decide ((k : Int) < (n' : Int)) = true := by simp; omega
        have b2' : decide (k < n') = true := by simp [h2]
        obtain ⟨x, hx⟩ : ∃ x, l[k]? = some x := ⟨_, List.getElem?_eq_getElem (by rw [HL.out]; exact h1)⟩
        obtain ⟨y, hy⟩ : ∃ y, ks[k]? = some y := ⟨_, List.getElem?_eq_getElem (by rw [HK.out]; exact h2)⟩
        obtain ⟨b, off, rfl, hb, f1, f2, f3⟩ := tm_cells hl hx
        obtain ⟨b', off', rfl, hb', g1⟩ := hk.at_ hy
        have g2 := g1 0 _ rfl
        simp only [Nat.mul_one, Nat.add_zero] at g2
        have i1 : (0 : Int) ≤ (k : Int) := by omega
        have i2 : (k : Int) < (n : Int) := by omega
        have i3 : (k : Int) < (n' : Int) := by omega
        have hm1 : (l.take (k + 1)).map Tm.k = (l.take k).map Tm.k ++ [x.k] := by
          rw [List.take_add_one, hx]; simp
        have hm2 : ks.take (k + 1) = ks.take k ++ [y] := by rw [List.take_add_one, hy]; rfl
        have H1 := Lib.hid hm1; have H2 := Lib.hid hm2
        have hcan : ks.take (k + 1) ≠ (l.take (k + 1)).map Tm.k → ¬ l.map Tm.k = ks := by
          intro h e
          exact h (by rw [← e, List.map_take])
        have HC := Lib.hid hcan
        clear hx hy hm1 hm2 g1 hl hk hcan
        by_cases he : x.k = y
        · have b3 : (x.k != y) = false := by simp [he]
          go_wp2
          (refine wp_region_quiet_lit (by kernel_rfl) (by kernel_rfl) ?_; (repeat (any_goals (first | go_big_quiet_step (fail) | quiet_step (fail)))); all_goals (refine wpQuiet_nil ?_; intro _ hw'; obtain ⟨nq, hw''⟩ := hw'; subst hw''))
          go_wp2
          go_roundw
          case rel => exact ⟨k + 1, by omega, by omega, by go_num, by rw [H1.out, H2.out, HA.out, he], _, rfl⟩
          case measure => simp [intOf]; omega
        · have b3 : (x.k != y) = true := by simp [he]
          go_wp2
          (refine wp_region_quiet_lit (by kernel_rfl) (by kernel_rfl) ?_; (repeat (any_goals (first | go_big_quiet_step (fail) | quiet_step (fail)))); all_goals (refine wpQuiet_nil ?_; intro _ hw'; obtain ⟨nq, hw''⟩ := hw'; subst hw''))
          go_wp2
          go_ret
          exact ⟨ret_bool (by have := HC.out (by rw [H1.out, H2.out, HA.out]; intro e; simp at e; exact he e.symm); simp [this]), (by repeat (first | with_reducible exact Below.refl _ _ | with_reducible assumption | (with_reducible exact Env.below (by assumption)) | (with_reducible refine below_new ?_ _) | (with_reducible refine below_drew ?_) | (with_reducible refine below_drewN ?_ _) | (with_reducible refine below_put ?_ ?_ _; rotate_left 1; (dsimp only; omega)) | (with_reducible refine below_then ?_ (by assumption))))⟩
      · have b2 : decide ((k : Int) < (n' : Int)) = false := by simp; omega
        have b2' : decide (k < n') = false := by simp [h2]
        have b4 : ((n : Int) == (n' : Int)) = false := by simp; omega
        go_wp2
        go_ret
        exact ⟨ret_bool (by have : ¬ l.map Tm.k = ks := fun e => by { have := congrArg List.length e; rw [List.length_map, HL.out, HK.out] at this; omega }; simp [this]), (by repeat (first | with_reducible exact Below.refl _ _ | with_reducible assumption | (with_reducible exact Env.below (by assumption)) | (with_reducible refine below_new ?_ _) | (with_reducible refine below_drew ?_) | (with_reducible refine below_drewN ?_ _) | (with_reducible refine below_put ?_ ?_ _; rotate_left 1; (dsimp only; omega)) | (with_reducible refine below_then ?_ (by assumption))))⟩
    · have b1 : decide ((k : Int) < (n : Int)) = false := by simp; omega
      have b1' : decide (k < n) = false := by simp [h1]
      by_cases h2 : n = n'
      · have b4 : ((n : Int) == (n' : Int)) = true := by simp [h2]
        have hall := HA.out
        rw [List.take_of_length_le (by rw [HL.out]; omega), List.take_of_length_le (by rw [HK.out]; omega)] at hall
        have HA2 := Lib.hid hall
        clear hall h2
        go_wp2
        go_ret
        exact ⟨ret_bool (by simp [HA2.out]), (by repeat (first | with_reducible exact Below.refl _ _ | with_reducible assumption | (with_reducible exact Env.below (by assumption)) | (with_reducible refine below_new ?_ _) | (with_reducible refine below_drew ?_) | (with_reducible refine below_drewN ?_ _) | (with_reducible refine below_put ?_ ?_ _; rotate_left 1; (dsimp only; omega)) | (with_reducible refine below_then ?_ (by assumption))))⟩
      · have b4 : ((n : Int) == (n' : Int)) = false := by simp; omega
        go_wp2
        go_ret
        exact ⟨ret_bool (by have : ¬ l.map Tm.k = ks := fun e => by { have := congrArg List.length e; rw [List.length_map, HL.out, HK.out] at this; omega }; simp [this]), (by repeat (first | with_reducible exact Below.refl _ _ | with_reducible assumption | (with_reducible exact Env.below (by assumption)) | (with_reducible refine below_new ?_ _) | (with_reducible refine below_drew ?_) | (with_reducible refine below_drewN ?_ _) | (with_reducible refine below_put ?_ ?_ _; rotate_left 1; (dsimp only; omega)) | (with_reducible refine below_then ?_ (by assumption))))⟩

set_option maxHeartbeats 4000000 in
theorem few_any (A : Option Addr) (c n : Nat) (l : List Tm) (w : World) (hln : l.length = n) (hl : Rd tenc 3 w w.heap.size A l) :
    Calls Try.prog 37 #[.slice A n c] w fun e w' => e = .returned (.bool (decide (n ≤ 60 ∧ ∀ t ∈ l, tok t))) ∧ Below w.heap.size w w' := by
  have HL := Lib.hid hln
  clear hln
  go_enter Try.func37, Try.ntmps37
  go_wp2
  go_loopw [3] (fun i wr => ∃ k : Nat, k ≤ n ∧ k ≤ 60 ∧ i = .int .i64 k ∧ (∀ t ∈ l.take k, tok t) ∧ Below w.heap.size w wr) (fun i _ => n - (intOf i).toNat)
  case atStart => exact ⟨0, Nat.zero_le _, Nat.zero_le _, rfl, by simp, Below.refl _ _⟩
  case round =>
    obtain ⟨k, hk1, hk2, rfl, hall, hb⟩ := hrel
    have HA := Lib.hid hall
    clear hall
    by_cases h1 : k < n
    · have b1 : decide ((k : Int) < (n : Int)) = true := by simp; omega
      have b1' : decide (k < n) = true := by simp [h1]
      by_cases h2 : k < 60
      · have b2 : decide ((k : Int) < (60 : Int)) = true := by simp; omega
        have b2' : decide (k < 60) = true := by simp [h2]
        obtain ⟨x, hx⟩ : ∃ x, l[k]? = some x := ⟨_, List.getElem?_eq_getElem (by rw [HL.out]; exact h1)⟩
        obtain ⟨b, off, rfl, hbB, f1, f2, f3⟩ := tm_cells hl hx
        have d1 := (hb.cell (p := ⟨b, off + k * 3, none⟩) hbB).trans f1
        have d2 := (hb.cell (p := ⟨b, off + k * 3 + 1, none⟩) hbB).trans f2
        have d3 := (hb.cell (p := ⟨b, off + k * 3 + 2, none⟩) hbB).trans f3
        have i1 : (0 : Int) ≤ (k : Int) := by omega
        have i2 : (k : Int) < (n : Int) := by omega
        have hm1 : l.take (k + 1) = l.take k ++ [x] := by rw [List.take_add_one, hx]; rfl
        have hmem : x ∈ l := List.mem_of_getElem? hx
        have H1 := Lib.hid hm1; have HM := Lib.hid hmem
        clear hx hm1 hl f1 f2 f3 hmem
        by_cases hok : tok x
        · have b3 : decide (tok x) = true := by simp [hok]
          have HOK := Lib.hid hok
          clear hok
          go_wp2_with (go_at_call 27; refine (rtright_any x _).mono ?_; rintro e w1 ⟨rfl, hb1⟩)
          go_roundw
          case rel => exact ⟨k + 1, by omega, by omega, by go_num, by rw [H1.out]; intro t ht; rcases List.mem_append.1 ht with h | h; exact HA.out t h; (simp at h; exact h ▸ HOK.out), below_then hb hb1⟩
          case measure => simp [intOf]; omega
        · have b3 : decide (tok x) = false := by simp [hok]
          have HOK := Lib.hid hok
          clear hok
          go_wp2_with (go_at_call 27; refine (rtright_any x _).mono ?_; rintro e w1 ⟨rfl, hb1⟩)
          go_ret
          exact ⟨ret_bool (by symm; rw [decide_eq_false_iff_not]; intro h; exact HOK.out (h.2 x HM.out)), below_then hb hb1⟩
      · have b2 : decide ((k : Int) < (60 : Int)) = false := by simp; omega
        have b2' : decide (k < 60) = false := by simp [h2]
        have b3 : decide ((n : Int) ≤ (60 : Int)) = false := by simp; omega
        have b3' : decide (n ≤ 60) = false := by simp; omega
        go_wp2
        go_ret
        exact ⟨ret_bool (by symm; rw [decide_eq_false_iff_not]; intro h; omega), hb⟩
    · have b1 : decide ((k : Int) < (n : Int)) = false := by simp; omega
      have b1' : decide (k < n) = false := by simp [h1]
      have b3 : decide ((n : Int) ≤ (60 : Int)) = true := by simp; omega
      have b3' : decide (n ≤ 60) = true := by simp; omega
      have hall := HA.out
      rw [List.take_of_length_le (by rw [HL.out]; omega)] at hall
      have HA2 := Lib.hid hall
      clear hall
      go_wp2
      go_ret
      exact ⟨ret_bool (by symm; rw [decide_eq_true_eq]; exact ⟨by omega, HA2.out⟩), hb⟩

/-- Pushing one after the other. -/
noncomputable def pushGo : List Tm → List Tm → List Tm × Bool
  | h, [] => (h, true)
  | h, x :: xs => if (tpush h x).2 = 0 then pushGo (tpush h x).1 xs else ([], false)
theorem tpush_len (h : List Tm) (x : Tm) : (tpush h x).1.length ≤ h.length + 1 := by
  unfold tpush
  split; simp
  split; simp
  split; simp
  simp [pushL_length]
theorem tpush_err (h : List Tm) (x : Tm) : 0 ≤ (tpush h x).2 ∧ (tpush h x).2 ≤ 18 := by
  unfold tpush
  rcases tck_range h with e | e | e <;> rw [e] <;> (repeat' split) <;> simp_all

set_option maxHeartbeats 8000000 in
theorem pushed_any (A : Option Addr) (c n : Nat) (l : List Tm) (w : World) (hln : l.length = n) (hr : Rd tenc 3 w w.heap.size A l) (hn : n ≤ 1099511627776) :
    Calls Try.prog 38 #[.slice A n c] w fun e w' => ∃ v, e = .returned (.tuple #[v, .bool (pushGo [] l).2]) ∧ Own tenc 3 w' w.heap.size 34 v (pushGo [] l).1 ∧ Below w.heap.size w w' := by
  have HL := Lib.hid hln
  clear hln
  go_enter Try.func38, Try.ntmps38
  go_wp2
  go_loopw [4, 5] (fun h i wr => ∃ (k : Nat) (hs : List Tm), k ≤ n ∧ i = .int .i64 k ∧ hs.length ≤ k ∧ Own tenc 3 wr w.heap.size 34 h hs ∧ pushGo hs (l.drop k) = pushGo [] l ∧ Below w.heap.size w wr) (fun _ i _ => n - (intOf i).toNat)
  case atStart => exact ⟨0, [], Nat.zero_le _, rfl, Nat.le_refl _, Own.nil _ _ _, by simp, Below.refl _ _⟩
  case round =>
    obtain ⟨k, hs, hk, rfl, hhk, howh, hgo, hb⟩ := hrel
    have HG := Lib.hid hgo
    clear hgo
    by_cases h1 : k < n
    · have b1 : decide ((k : Int) < (n : Int)) = true := by simp; omega
      have b1' : decide (k < n) = true := by simp [h1]
      obtain ⟨x, hx⟩ : ∃ x, l[k]? = some x := ⟨_, List.getElem?_eq_getElem (by rw [HL.out]; exact h1)⟩
      obtain ⟨b, off, rfl, hbB, f1, f2, f3⟩ := tm_cells hr hx
      have d1 := (hb.cell (p := ⟨b, off + k * 3, none⟩) hbB).trans f1
      have d2 := (hb.cell (p := ⟨b, off + k * 3 + 1, none⟩) hbB).trans f2
      have d3 := (hb.cell (p := ⟨b, off + k * 3 + 2, none⟩) hbB).trans f3
      have hdr : l.drop k = x :: l.drop (k + 1) := by
        have hkl : k < l.length := by rw [HL.out]; exact h1
        rw [List.getElem?_eq_getElem hkl] at hx
        rw [List.drop_eq_getElem_cons hkl, Option.some.inj hx]
      have HD := Lib.hid hdr
      have i1 : (0 : Int) ≤ (k : Int) := by omega
      have i2 : (k : Int) < (n : Int) := by omega
      obtain ⟨Ah, ch, rfl⟩ := own_shape howh
      obtain ⟨q, hq⟩ : ∃ q, q = (tpush hs x).2 := ⟨_, rfl⟩
      have HQ := Lib.hid hq
      by_cases h0 : q = 0
      · have b2 : (q != 0) = false := by simp [h0]
        have hg2 : pushGo (tpush hs x).1 (l.drop (k + 1)) = pushGo [] l := by rw [← HG.out, HD.out, pushGo, if_pos (by rw [← HQ.out, h0])]
        have HG2 := Lib.hid hg2
        clear hx hdr hq h0 f1 f2 f3 hr hg2
        go_wp2_with (go_at_call 28; refine (push_any Ah ch hs x _ (by omega) (Own.rd tenc_len howh)).mono ?_; rw [← HQ.out]; rintro e w1 ⟨v1, rfl, hown1, hb1⟩)
        go_roundw
        case rel => exact ⟨k + 1, (tpush hs x).1, by omega, by go_num, by have := tpush_len hs x; omega, hown1.mono hb.size, HG2.out, below_then hb hb1⟩
        case measure => simp [intOf]; omega
      · have b2 : (q != 0) = true := by simp [h0]
        have hg2 : pushGo [] l = ([], false) := by rw [← HG.out, HD.out, pushGo, if_neg (by rw [← HQ.out]; exact h0)]
        have HG2 := Lib.hid hg2
        clear hx hdr hq h0 f1 f2 f3 hr hg2
        go_wp2_with (go_at_call 28; refine (push_any Ah ch hs x _ (by omega) (Own.rd tenc_len howh)).mono ?_; rw [← HQ.out]; rintro e w1 ⟨v1, rfl, hown1, hb1⟩)
        go_ret2
        exact ⟨.slice none 0 0, by rw [HG2.out]; rfl, by rw [HG2.out]; exact Own.nil _ _ _, below_then hb hb1⟩
    · have b1 : decide ((k : Int) < (n : Int)) = false := by simp; omega
      have b1' : decide (k < n) = false := by simp [h1]
      have hg2 : pushGo [] l = (hs, true) := by rw [← HG.out, List.drop_of_length_le (by rw [HL.out]; omega)]; rfl
      have HG2 := Lib.hid hg2
      clear hg2
      go_wp2
      go_ret2
      rw [HG2.out]
      exact ⟨_, rfl, howh, hb⟩
end Go.Proofs.Ytffehibdeogjeaa

/- Chapter 18: plain facts of heaps of valid timers, and the contract of the laws' example (alive). No condition. -/
namespace Go.Proofs.Ytffehibdeogjeaa
open Go.RowKit

theorem pushGo_ok : ∀ (xs h : List Tm), thv h → (∀ t ∈ xs, tok t) → h.length + xs.length ≤ 4000 →
    pushGo h xs = (xs.foldl (pushL tlt t0) h, true) ∧ thv (xs.foldl (pushL tlt t0) h) ∧ (xs.foldl (pushL tlt t0) h).Perm (h ++ xs)
  | [], h, hv, _, _ => ⟨rfl, hv, by simp⟩
  | x :: xs, h, hv, hx, hl => by
    simp only [List.length_cons] at hl
    obtain ⟨h1, h2, h3⟩ := pushGo_ok xs (pushL tlt t0 h x) (thv_push hv (hx x (by simp))) (fun t ht => hx t (by simp [ht])) (by rw [pushL_length]; omega)
    rw [pushGo, tpush_ok hv (by omega) (hx x (by simp)), if_pos rfl, List.foldl_cons]
    refine ⟨h1, h2, h3.trans ?_⟩
    exact ((pushL_perm tlt t0 h x).append_right xs).trans (by simp)

def alL : List Tm := [⟨0, 30, 1⟩, ⟨0, 10, 2⟩, ⟨0, 20, 3⟩, ⟨0, 10, 4⟩]
def alH : List Tm := [⟨0, 10, 2⟩, ⟨0, 10, 4⟩, ⟨0, 20, 3⟩, ⟨0, 30, 1⟩]
theorem alGo : pushGo [] alL = (alH, true) := by
  have h := pushGo_ok alL [] thv_nil (by intro t ht; simp [alL] at ht; rcases ht with rfl | rfl | rfl | rfl <;> simp [tok]) (by decide)
  rw [h.1]
  have e : alL.foldl (pushL tlt t0) [] = alH := by decide +kernel
  rw [e]
theorem alV : thv alH := by
  have h := pushGo_ok alL [] thv_nil (by intro t ht; simp [alL] at ht; rcases ht with rfl | rfl | rfl | rfl <;> simp [tok]) (by decide)
  have e : alL.foldl (pushL tlt t0) [] = alH := by decide +kernel
  rw [e] at h
  exact h.2.1
theorem alU : tuntil alH 20 = ([⟨0, 10, 2⟩, ⟨0, 10, 4⟩, ⟨0, 20, 3⟩], [⟨0, 30, 1⟩], 0) := by
  rw [tuntil_ok 20 alV (by decide)]
  have e : untilL tlt t0 (fun t => decide (t.e ≤ 20)) alH.length alH = ([⟨0, 10, 2⟩, ⟨0, 10, 4⟩, ⟨0, 20, 3⟩], [⟨0, 30, 1⟩]) := by decide +kernel
  rw [e]

theorem rd_alL (w : World) : Rd tenc 3 (w.alloc (.cells #[.int .i64 0, .int .i64 30, .int .i64 1, .int .i64 0, .int .i64 10, .int .i64 2, .int .i64 0, .int .i64 20, .int .i64 3, .int .i64 0, .int .i64 10, .int .i64 4] 34)) (w.alloc (.cells #[.int .i64 0, .int .i64 30, .int .i64 1, .int .i64 0, .int .i64 10, .int .i64 2, .int .i64 0, .int .i64 20, .int .i64 3, .int .i64 0, .int .i64 10, .int .i64 4] 34)).heap.size (some ⟨w.heap.size, 0, none⟩) alL :=
  Own.rd tenc_len (Own.made tenc_len w w.heap.size 34 alL w.heap.size rfl (Nat.le_refl _) (by decide))
theorem rd_k4 (w : World) : Rd ienc 1 (w.alloc (.cells #[.int .i64 2, .int .i64 4, .int .i64 3, .int .i64 1] 2)) (w.heap.size + 1) (some ⟨w.heap.size, 0, none⟩) [2, 4, 3, 1] := rd_new w [2, 4, 3, 1] _
theorem rd_k3 (w : World) : Rd ienc 1 (w.alloc (.cells #[.int .i64 2, .int .i64 4, .int .i64 3] 2)) (w.heap.size + 1) (some ⟨w.heap.size, 0, none⟩) [2, 4, 3] := rd_new w [2, 4, 3] _
theorem rd_k1 (w : World) : Rd ienc 1 (w.alloc (.cells #[.int .i64 1] 2)) (w.heap.size + 1) (some ⟨w.heap.size, 0, none⟩) [1] := rd_new w [1] _
theorem pushed_alL (w : World) : Calls Try.prog 38 #[.slice (some ⟨w.heap.size, 0, none⟩) 4 4] (w.alloc (.cells #[.int .i64 0, .int .i64 30, .int .i64 1, .int .i64 0, .int .i64 10, .int .i64 2, .int .i64 0, .int .i64 20, .int .i64 3, .int .i64 0, .int .i64 10, .int .i64 4] 34)) fun e w' => ∃ A c, e = .returned (.tuple #[.slice A 4 c, .bool true]) ∧ Own tenc 3 w' w.heap.size 34 (.slice A 4 c) alH ∧ Below (w.alloc (.cells #[.int .i64 0, .int .i64 30, .int .i64 1, .int .i64 0, .int .i64 10, .int .i64 2, .int .i64 0, .int .i64 20, .int .i64 3, .int .i64 0, .int .i64 10, .int .i64 4] 34)).heap.size (w.alloc (.cells #[.int .i64 0, .int .i64 30, .int .i64 1, .int .i64 0, .int .i64 10, .int .i64 2, .int .i64 0, .int .i64 20, .int .i64 3, .int .i64 0, .int .i64 10, .int .i64 4] 34)) w' := by
  refine (pushed_any _ _ 4 alL _ rfl (rd_alL w) (by omega)).mono ?_
  rw [alGo]
  rintro e w' ⟨v, rfl, h1, h2⟩
  obtain ⟨A, c, rfl⟩ : ∃ A c, v = .slice A 4 c := own_shape h1
  exact ⟨A, c, rfl, h1.mono (by simp), h2⟩
theorem until_alH (A : Option Addr) (c : Nat) (w : World) (hr : Rd tenc 3 w w.heap.size A alH) : Calls Try.prog 23 #[.slice A 4 c, .int .i64 20] w fun e w' => ∃ A1 c1 A2 c2, e = .returned (.tuple #[.slice A1 3 c1, .slice A2 1 c2, .int .i64 0]) ∧
    Own tenc 3 w' w.heap.size 34 (.slice A1 3 c1) [⟨0, 10, 2⟩, ⟨0, 10, 4⟩, ⟨0, 20, 3⟩] ∧ Own tenc 3 w' w.heap.size 34 (.slice A2 1 c2) [⟨0, 30, 1⟩] ∧ Below w.heap.size w w' := by
  refine (tuntil_any A c alH 20 w (by decide) hr).mono ?_
  rw [alU]
  rintro e w' ⟨v, u, rfl, h1, h2, h3⟩
  obtain ⟨A1, c1, rfl⟩ : ∃ A c, v = .slice A 3 c := own_shape h1
  obtain ⟨A2, c2, rfl⟩ : ∃ A c, u = .slice A 1 c := own_shape h2
  exact ⟨A1, c1, A2, c2, rfl, h1, h2, h3⟩
theorem keys_is (A A' : Option Addr) (c c' n : Nat) (l : List Tm) (ks : List Int) (w : World) {B B' : Nat} (hln : l.length = n) (hkn : ks.length = n) (he : l.map Tm.k = ks) (hl : Rd tenc 3 w B A l) (hk : Rd ienc 1 w B' A' ks) (hn : n ≤ 1099511627776) :
    Calls Try.prog 36 #[.slice A n c, .slice A' n c'] w fun e w' => e = .returned (.bool true) ∧ Below w.heap.size w w' := by
  have h := keys_any A A' c c' n n l ks w hln hkn hl hk hn
  rw [show decide (l.map Tm.k = ks) = true by simp [he]] at h
  exact h

set_option maxHeartbeats 8000000 in
set_option maxRecDepth 100000 in
theorem alive18 (w : World) : Calls Try.prog 21 #[] w fun e w' => e = .returned (.bool true) ∧ Below w.heap.size w w' := by
  go_enter Try.func21, Try.ntmps21
  go_wp2_with (first
    | (go_at_call 35; refine (at_any _ _ _).mono ?_; rintro r w1 ⟨rfl, hb1⟩)
    | (go_at_call 38; refine (pushed_alL _).mono ?_; rintro r w5 ⟨A5, c5, rfl, hown5, hb5⟩)
    | (go_at_call 23; refine (until_alH _ _ _ (Own.rd tenc_len hown5)).mono ?_; rintro r w6 ⟨A6, c6, Au6, cu6, rfl, hown6, hownu6, hb6⟩; have hown56 := hown5.below hb6))
  go_at_call 36
  refine (keys_is _ _ _ _ 4 alH [2, 4, 3, 1] _ rfl rfl rfl (Own.rd tenc_len (hown56.alloc _)) (rd_k4 w6) (by omega)).mono ?_
  rintro r w7 ⟨rfl, hb7⟩
  have hown7 := (hown6.alloc (.cells #[.int .i64 2, .int .i64 4, .int .i64 3, .int .i64 1] 2)).below hb7
  have hownu7 := (hownu6.alloc (.cells #[.int .i64 2, .int .i64 4, .int .i64 3, .int .i64 1] 2)).below hb7
  clear hown5 hown56
  go_wp2_with fail
  go_at_call 36
  refine (keys_is _ _ _ _ 3 [⟨0, 10, 2⟩, ⟨0, 10, 4⟩, ⟨0, 20, 3⟩] [2, 4, 3] _ rfl rfl rfl (Own.rd tenc_len (hown7.alloc _)) (rd_k3 w7) (by omega)).mono ?_
  rintro r w8 ⟨rfl, hb8⟩
  have hownu8 := (hownu7.alloc (.cells #[.int .i64 2, .int .i64 4, .int .i64 3] 2)).below hb8
  clear hown7 hownu7 hown6 hownu6
  go_wp2_with fail
  go_at_call 36
  refine (keys_is _ _ _ _ 1 [⟨0, 30, 1⟩] [1] _ rfl rfl rfl (Own.rd tenc_len (hownu8.alloc _)) (rd_k1 w8) (by omega)).mono ?_
  rintro r w9 ⟨rfl, hb9⟩
  go_wp2
  go_ret
  exact ⟨rfl, (by repeat (first | with_reducible exact Below.refl _ _ | with_reducible assumption | (with_reducible exact Env.below (by assumption)) | (with_reducible refine below_new ?_ _) | (with_reducible refine below_drew ?_) | (with_reducible refine below_drewN ?_ _) | (with_reducible refine below_put ?_ ?_ _; rotate_left 1; (dsimp only; omega)) | (with_reducible refine below_then ?_ (by assumption))))⟩
end Go.Proofs.Ytffehibdeogjeaa

/- The walk of the law TimersTells (chapter 18). No condition. -/
namespace Go.Proofs.Ytffehibdeogjeaa
open Go.RowKit Go.ChangeShapes Go.WideShapes Go.ChangeAt Go.Deep

def tmok (t : Tm) : Prop := (Lit.int .i64 t.s).wf = true ∧ (Lit.int .i64 t.e).wf = true ∧ (Lit.int .i64 t.k).wf = true
theorem tenc_dec (vs : List Value) (h : FitsL [some .i64, some .i64, some .i64] vs) : ∃ x, vs = tenc x ∧ tmok x := by
  obtain ⟨n, vs', rfl, hw, m, vs2, rfl, hw2, k, vs3, rfl, hw3, rfl⟩ := h
  exact ⟨⟨n, m, k⟩, rfl, hw, hw2, hw3⟩
theorem tsame_yes (A A' : Option Addr) (c c' n : Nat) (l : List Tm) (w : World) (hl : Rd tenc 3 w w.heap.size A l) (hm : Rd tenc 3 w w.heap.size A' l) (hn : l.length ≤ 4611686018427387904) (hln : l.length = n) :
    Calls Try.prog 25 #[.slice A n c, .slice A' n c'] w fun e w' => e = .returned (.bool true) ∧ Below w.heap.size w w' := by
  have h := tsame_any A A' c c' l l w hl hm hn
  rw [hln] at h
  simpa [tmsEq] using h
theorem tuntil_len (l : List Tm) (mark : Int) : (tuntil l mark).1.length + (tuntil l mark).2.1.length ≤ l.length := by
  by_cases h : tck l = 0
  · have hv := (tck_zero h).1
    have := (untilL_facts tsto t0 (fun t => decide (t.e ≤ mark)) l.length l (Nat.le_refl _) hv.2).2.2.2.2
    unfold tuntil
    rw [if_neg (by rw [h]; simp)]
    exact Nat.le_of_eq this
  · unfold tuntil
    rw [if_pos h]
    simp

set_option maxHeartbeats 8000000 in
set_option maxRecDepth 100000 in
theorem timersTells_walk {w : World} (A : Option Addr) (c : Nat) (l : List Tm) (_lc : l.length ≤ c) (_lm : c ≤ maxLen) (_lw : ∀ x ∈ l, tmok x) (lr : Rd tenc 3 w w.heap.size A l) (ln : A = none → c = 0)
    (s : Int) (_ws : (Lit.int .i64 s).wf = true) (e : Int) (_we : (Lit.int .i64 e).wf = true) (k : Int) (_wk : (Lit.int .i64 k).wf = true) (mark : Int) (_wm : (Lit.int .i64 mark).wf = true) :
    Calls Try.prog 5 #[.slice A l.length c, .agg #[.int .i64 s, .int .i64 e, .int .i64 k], .int .i64 mark] w fun r w' => r = .returned (.bool true) ∧ Below w.heap.size w w' := by
  obtain ⟨n, hn'⟩ : ∃ n, n = l.length := ⟨_, rfl⟩
  by_cases hg : 120 < n ∧ n < 3999 ∨ 4002 < n
  · have b1 : decide (120 < n ∧ n < 3999 ∨ 4002 < n) = true := by simp [hg]
    rw [← hn']
    have hL : Loc w [] := trivial
    clear hn' hg
    go_enter Try.func5, Try.ntmps5
    go_wp2_with (first
      | (go_at_call 30; refine (rgreat_any _ _ _ _).mono ?_; rw [b1]; rintro r w1 ⟨rfl, rfl⟩))
    go_ret
    exact ⟨rfl, (by repeat (first | with_reducible exact Below.refl _ _ | with_reducible assumption | (with_reducible exact Env.below (by assumption)) | (with_reducible refine below_new ?_ _) | (with_reducible refine below_drew ?_) | (with_reducible refine below_drewN ?_ _) | (with_reducible refine below_put ?_ ?_ _; rotate_left 1; (dsimp only; omega)) | (with_reducible refine below_then ?_ (by assumption))))⟩
  · have b1 : decide (120 < n ∧ n < 3999 ∨ 4002 < n) = false := by simp; omega
    have hn : n ≤ 4002 := by omega
    rw [hn'] at hn
    obtain ⟨P, p, hP⟩ : ∃ P p, tpush l ⟨s, e, k⟩ = (P, p) := ⟨_, _, rfl⟩
    obtain ⟨T, R, q, hQ⟩ : ∃ T R q, tpopl l = (T, R, q) := ⟨_, _, _, rfl⟩
    obtain ⟨U, V, u, hU⟩ : ∃ U V u, tuntil l mark = (U, V, u) := ⟨_, _, _, rfl⟩
    obtain ⟨t1, t2, t3⟩ := T
    obtain ⟨z, hz⟩ : ∃ z, z = tck l := ⟨_, rfl⟩
    have hck := fun W (h : Rd tenc 3 W W.heap.size A l) => tcheck_any A c l W (by omega) h
    have hpu := fun W (h : Rd tenc 3 W W.heap.size A l) => push_any A c l ⟨s, e, k⟩ W (by omega) h
    have hpo := fun W (h : Rd tenc 3 W W.heap.size A l) => tpop_any A c l W (by omega) h
    have hun := fun W (h : Rd tenc 3 W W.heap.size A l) => tuntil_any A c l mark W (by omega) h
    have rck := fun g c W (h : Rd tenc 3 W W.heap.size (some ⟨g, 0, none⟩) l) => rtcheck_any (some ⟨g, 0, none⟩) c l W (by omega) h
    have rpu := fun g c W (hb : g < W.heap.size) (h : Rd tenc 3 W W.heap.size (some ⟨g, 0, none⟩) l) => rpush_any g 0 c l ⟨s, e, k⟩ W (by omega) hb h
    have rpo := fun g c W (hc : l.length ≤ c) (hb : g < W.heap.size) (h : Rd tenc 3 W W.heap.size (some ⟨g, 0, none⟩) l) => rpop_any g 0 c l W hc (by omega) hb h
    have run := fun g c W (hb : g < W.heap.size) (h : Rd tenc 3 W W.heap.size (some ⟨g, 0, none⟩) l) => runtil_any g 0 c l mark W (by omega) hb h
    rw [hP] at hpu rpu
    rw [hQ] at hpo rpo
    rw [hU] at hun run
    rw [← hz] at hck rck
    rw [← hn'] at hck hpu hpo hun rck rpu rpo run hn ⊢
    have HCK := Lib.hid hck; have HPU := Lib.hid hpu; have HPO := Lib.hid hpo; have HUN := Lib.hid hun
    have RCK := Lib.hid rck; have RPU := Lib.hid rpu; have RPO := Lib.hid rpo; have RUN := Lib.hid run
    have HN := Lib.hid hn'; have LN := Lib.hid ln
    have plen : P.length ≤ 4003 := by have := tpush_len l ⟨s, e, k⟩; rw [hP] at this; simp at this; omega
    have rlen : R.length ≤ 4003 := by have h : (tpopl l).2.1.length ≤ l.length := (by unfold tpopl; split; simp; split; simp; simp [popL_length]); rw [hQ] at h; simp at h; omega
    have ulen : U.length ≤ 4003 ∧ V.length ≤ 4003 := by have h := tuntil_len l mark; rw [hU] at h; simp at h; omega
    obtain ⟨ulen, vlen⟩ := ulen
    clear hck hpu hpo hun rck rpu rpo run hn' hP hQ hU hz hg ln
    obtain ⟨i0, hi0, hz0, hz1, hz2⟩ := info_parts tm_info
    have hL : Loc w [] := trivial
    go_enter Try.func5, Try.ntmps5
    go_wp2_with (first
      | (go_at_call 30; refine (rgreat_any _ _ _ _).mono ?_; rw [b1]; rintro r w1 ⟨rfl, rfl⟩)
      | (at_builtin; refine wpList_append_copy rfl (.tmp 26) (.tmp 27) 22 rfl (w.alloc (.cells #[.int .i64 s, .int .i64 e, .int .i64 k] 34)).heap.size 34 i0 (.agg #[.int .i64 0, .int .i64 0, .int .i64 0]) 3 24 Try.underlying22 hi0 hz0 hz1 hz2 rfl (by decide) tenc tenc_len (w.heap.size + 1) 0 l rfl (own_empty (by have h := heap_alloc_new (w.alloc (.cells #[.int .i64 s, .int .i64 e, .int .i64 k] 34)) (.cells #[] 34); rw [World.size_alloc] at h; exact h) (by simp)) A n c rfl HN.out.symm LN.out (rd_grown lr (by repeat (first | with_reducible exact Below.refl _ _ | with_reducible assumption | (with_reducible exact Env.below (by assumption)) | (with_reducible refine below_new ?_ _) | (with_reducible refine below_drew ?_) | (with_reducible refine below_drewN ?_ _) | (with_reducible refine below_put ?_ ?_ _; rotate_left 1; (dsimp only; omega)) | (with_reducible refine below_then ?_ (by assumption))))) (tenc_one l) (by unfold maxLen; omega) (by omega) (by simp) ?_; intro g cap w2 hown2 hcap hg2 hb2; replace hb2 := (below_new (Below.refl _ _) _).trans hb2; have hrd2 := Own.rd tenc_len hown2; replace hL := (by with_reducible first | exact hL.below hb2 | exact (hL.new _ _).below hb2 | exact ((hL.new _ _).new _ _).below hb2 | exact (((hL.new _ _).new _ _).new _ _).below hb2 | exact ((((hL.new _ _).new _ _).new _ _).new _ _).below hb2); (repeat rw [World.size_alloc] at hL); have hF := hL; (repeat unfold Loc at hF))
      | (go_at_call 28; refine (HPU.out _ (rd_grown lr (by repeat (first | with_reducible exact Below.refl _ _ | with_reducible assumption | (with_reducible exact Env.below (by assumption)) | (with_reducible refine below_new ?_ _) | (with_reducible refine below_drew ?_) | (with_reducible refine below_drewN ?_ _) | (with_reducible refine below_put ?_ ?_ _; rotate_left 1; (dsimp only; omega)) | (with_reducible refine below_then ?_ (by assumption)))))).mono ?_; rintro r w3 ⟨v3, rfl, hown3, hb3⟩; obtain ⟨A3, c3, rfl, -⟩ := own_shape_n hown3 rfl; replace hL := (by with_reducible first | exact hL.below hb3 | exact (hL.new _ _).below hb3 | exact ((hL.new _ _).new _ _).below hb3 | exact (((hL.new _ _).new _ _).new _ _).below hb3 | exact ((((hL.new _ _).new _ _).new _ _).new _ _).below hb3); (repeat rw [World.size_alloc] at hL); have hF := hL; (repeat unfold Loc at hF))
      | (go_at_call 31; refine (RPU.out _ _ _ (Nat.lt_of_lt_of_le hg2 (Below.size (by exact (by repeat (first | with_reducible exact Below.refl _ _ | with_reducible assumption | (with_reducible exact Env.below (by assumption)) | (with_reducible refine below_new ?_ _) | (with_reducible refine below_drew ?_) | (with_reducible refine below_drewN ?_ _) | (with_reducible refine below_put ?_ ?_ _; rotate_left 1; (dsimp only; omega)) | (with_reducible refine below_then ?_ (by assumption)))) : Below w2.heap.size w2 _))) (rd_grown hrd2 (by repeat (first | with_reducible exact Below.refl _ _ | with_reducible assumption | (with_reducible exact Env.below (by assumption)) | (with_reducible refine below_new ?_ _) | (with_reducible refine below_drew ?_) | (with_reducible refine below_drewN ?_ _) | (with_reducible refine below_put ?_ ?_ _; rotate_left 1; (dsimp only; omega)) | (with_reducible refine below_then ?_ (by assumption)))))).mono ?_; rintro r w4 ⟨v4, rfl, hown4, hb4⟩; obtain ⟨A4, c4, rfl, -⟩ := own_shape_n hown4 rfl; replace hL := (by with_reducible first | exact hL.below hb4 | exact (hL.new _ _).below hb4 | exact ((hL.new _ _).new _ _).below hb4 | exact (((hL.new _ _).new _ _).new _ _).below hb4 | exact ((((hL.new _ _).new _ _).new _ _).new _ _).below hb4); (repeat rw [World.size_alloc] at hL); have hF := hL; (repeat unfold Loc at hF))
      | (go_at_call 32; refine (HPO.out _ (rd_grown lr (by repeat (first | with_reducible exact Below.refl _ _ | with_reducible assumption | (with_reducible exact Env.below (by assumption)) | (with_reducible refine below_new ?_ _) | (with_reducible refine below_drew ?_) | (with_reducible refine below_drewN ?_ _) | (with_reducible refine below_put ?_ ?_ _; rotate_left 1; (dsimp only; omega)) | (with_reducible refine below_then ?_ (by assumption)))))).mono ?_; rintro r w5 ⟨v5, rfl, hown5, hb5⟩; obtain ⟨A5, c5, rfl, -⟩ := own_shape_n hown5 rfl; replace hL := (by with_reducible first | exact hL.below hb5 | exact (hL.new _ _).below hb5 | exact ((hL.new _ _).new _ _).below hb5 | exact (((hL.new _ _).new _ _).new _ _).below hb5 | exact ((((hL.new _ _).new _ _).new _ _).new _ _).below hb5); (repeat rw [World.size_alloc] at hL); have hF := hL; (repeat unfold Loc at hF))
      | (go_at_call 33; refine (RPO.out _ _ _ hcap (Nat.lt_of_lt_of_le hg2 (Below.size (by exact (by repeat (first | with_reducible exact Below.refl _ _ | with_reducible assumption | (with_reducible exact Env.below (by assumption)) | (with_reducible refine below_new ?_ _) | (with_reducible refine below_drew ?_) | (with_reducible refine below_drewN ?_ _) | (with_reducible refine below_put ?_ ?_ _; rotate_left 1; (dsimp only; omega)) | (with_reducible refine below_then ?_ (by assumption)))) : Below w2.heap.size w2 _))) (rd_grown hrd2 (by repeat (first | with_reducible exact Below.refl _ _ | with_reducible assumption | (with_reducible exact Env.below (by assumption)) | (with_reducible refine below_new ?_ _) | (with_reducible refine below_drew ?_) | (with_reducible refine below_drewN ?_ _) | (with_reducible refine below_put ?_ ?_ _; rotate_left 1; (dsimp only; omega)) | (with_reducible refine below_then ?_ (by assumption)))))).mono ?_; rintro r w6 ⟨v6, rfl, hown6, hb6⟩; obtain ⟨A6, c6, rfl, -⟩ := own_shape_n hown6 rfl; replace hL := (by with_reducible first | exact hL.below hb6 | exact (hL.new _ _).below hb6 | exact ((hL.new _ _).new _ _).below hb6 | exact (((hL.new _ _).new _ _).new _ _).below hb6 | exact ((((hL.new _ _).new _ _).new _ _).new _ _).below hb6); (repeat rw [World.size_alloc] at hL); have hF := hL; (repeat unfold Loc at hF))
      | (go_at_call 23; refine (HUN.out _ (rd_grown lr (by repeat (first | with_reducible exact Below.refl _ _ | with_reducible assumption | (with_reducible exact Env.below (by assumption)) | (with_reducible refine below_new ?_ _) | (with_reducible refine below_drew ?_) | (with_reducible refine below_drewN ?_ _) | (with_reducible refine below_put ?_ ?_ _; rotate_left 1; (dsimp only; omega)) | (with_reducible refine below_then ?_ (by assumption)))))).mono ?_; rintro r w7 ⟨v7, u7, rfl, hown7, hownu7, hb7⟩; obtain ⟨A7, c7, rfl, -⟩ := own_shape_n hown7 rfl; obtain ⟨B7, d7, rfl, -⟩ := own_shape_n hownu7 rfl; replace hL := (by with_reducible first | exact hL.below hb7 | exact (hL.new _ _).below hb7 | exact ((hL.new _ _).new _ _).below hb7 | exact (((hL.new _ _).new _ _).new _ _).below hb7 | exact ((((hL.new _ _).new _ _).new _ _).new _ _).below hb7); (repeat rw [World.size_alloc] at hL); have hF := hL; (repeat unfold Loc at hF))
      | (go_at_call 34; refine (RUN.out _ _ _ (Nat.lt_of_lt_of_le hg2 (Below.size (by exact (by repeat (first | with_reducible exact Below.refl _ _ | with_reducible assumption | (with_reducible exact Env.below (by assumption)) | (with_reducible refine below_new ?_ _) | (with_reducible refine below_drew ?_) | (with_reducible refine below_drewN ?_ _) | (with_reducible refine below_put ?_ ?_ _; rotate_left 1; (dsimp only; omega)) | (with_reducible refine below_then ?_ (by assumption)))) : Below w2.heap.size w2 _))) (rd_grown hrd2 (by repeat (first | with_reducible exact Below.refl _ _ | with_reducible assumption | (with_reducible exact Env.below (by assumption)) | (with_reducible refine below_new ?_ _) | (with_reducible refine below_drew ?_) | (with_reducible refine below_drewN ?_ _) | (with_reducible refine below_put ?_ ?_ _; rotate_left 1; (dsimp only; omega)) | (with_reducible refine below_then ?_ (by assumption)))))).mono ?_; rintro r w8 ⟨v8, u8, rfl, hown8, hownu8, hb8⟩; obtain ⟨A8, c8, rfl, -⟩ := own_shape_n hown8 rfl; obtain ⟨B8, d8, rfl, -⟩ := own_shape_n hownu8 rfl; replace hL := (by with_reducible first | exact hL.below hb8 | exact (hL.new _ _).below hb8 | exact ((hL.new _ _).new _ _).below hb8 | exact (((hL.new _ _).new _ _).new _ _).below hb8 | exact ((((hL.new _ _).new _ _).new _ _).new _ _).below hb8); (repeat rw [World.size_alloc] at hL); have hF := hL; (repeat unfold Loc at hF)))
    go_at_call 25
    refine (tsame_yes _ _ _ _ _ P _ (rd_grown (Own.rd tenc_len hown3) (by repeat (first | with_reducible exact Below.refl _ _ | with_reducible assumption | (with_reducible exact Env.below (by assumption)) | (with_reducible refine below_new ?_ _) | (with_reducible refine below_drew ?_) | (with_reducible refine below_drewN ?_ _) | (with_reducible refine below_put ?_ ?_ _; rotate_left 1; (dsimp only; omega)) | (with_reducible refine below_then ?_ (by assumption))))) (rd_grown (Own.rd tenc_len hown4) (by repeat (first | with_reducible exact Below.refl _ _ | with_reducible assumption | (with_reducible exact Env.below (by assumption)) | (with_reducible refine below_new ?_ _) | (with_reducible refine below_drew ?_) | (with_reducible refine below_drewN ?_ _) | (with_reducible refine below_put ?_ ?_ _; rotate_left 1; (dsimp only; omega)) | (with_reducible refine below_then ?_ (by assumption))))) (by omega) rfl).mono ?_
    rintro r w9 ⟨rfl, hb9⟩
    replace hL := (by with_reducible first | exact hL.below hb9 | exact (hL.new _ _).below hb9 | exact ((hL.new _ _).new _ _).below hb9 | exact (((hL.new _ _).new _ _).new _ _).below hb9 | exact ((((hL.new _ _).new _ _).new _ _).new _ _).below hb9); (repeat rw [World.size_alloc] at hL); have hF := hL; (repeat unfold Loc at hF)
    go_wp2_with fail
    go_at_call 25
    refine (tsame_yes _ _ _ _ _ R _ (rd_grown (Own.rd tenc_len hown5) (by repeat (first | with_reducible exact Below.refl _ _ | with_reducible assumption | (with_reducible exact Env.below (by assumption)) | (with_reducible refine below_new ?_ _) | (with_reducible refine below_drew ?_) | (with_reducible refine below_drewN ?_ _) | (with_reducible refine below_put ?_ ?_ _; rotate_left 1; (dsimp only; omega)) | (with_reducible refine below_then ?_ (by assumption))))) (rd_grown (Own.rd tenc_len hown6) (by repeat (first | with_reducible exact Below.refl _ _ | with_reducible assumption | (with_reducible exact Env.below (by assumption)) | (with_reducible refine below_new ?_ _) | (with_reducible refine below_drew ?_) | (with_reducible refine below_drewN ?_ _) | (with_reducible refine below_put ?_ ?_ _; rotate_left 1; (dsimp only; omega)) | (with_reducible refine below_then ?_ (by assumption))))) (by omega) rfl).mono ?_
    rintro r w10 ⟨rfl, hb10⟩
    replace hL := (by with_reducible first | exact hL.below hb10 | exact (hL.new _ _).below hb10 | exact ((hL.new _ _).new _ _).below hb10 | exact (((hL.new _ _).new _ _).new _ _).below hb10 | exact ((((hL.new _ _).new _ _).new _ _).new _ _).below hb10); (repeat rw [World.size_alloc] at hL); have hF := hL; (repeat unfold Loc at hF)
    go_wp2_with fail
    go_at_call 25
    refine (tsame_yes _ _ _ _ _ U _ (rd_grown (Own.rd tenc_len hown7) (by repeat (first | with_reducible exact Below.refl _ _ | with_reducible assumption | (with_reducible exact Env.below (by assumption)) | (with_reducible refine below_new ?_ _) | (with_reducible refine below_drew ?_) | (with_reducible refine below_drewN ?_ _) | (with_reducible refine below_put ?_ ?_ _; rotate_left 1; (dsimp only; omega)) | (with_reducible refine below_then ?_ (by assumption))))) (rd_grown (Own.rd tenc_len hown8) (by repeat (first | with_reducible exact Below.refl _ _ | with_reducible assumption | (with_reducible exact Env.below (by assumption)) | (with_reducible refine below_new ?_ _) | (with_reducible refine below_drew ?_) | (with_reducible refine below_drewN ?_ _) | (with_reducible refine below_put ?_ ?_ _; rotate_left 1; (dsimp only; omega)) | (with_reducible refine below_then ?_ (by assumption))))) (by omega) rfl).mono ?_
    rintro r w11 ⟨rfl, hb11⟩
    replace hL := (by with_reducible first | exact hL.below hb11 | exact (hL.new _ _).below hb11 | exact ((hL.new _ _).new _ _).below hb11 | exact (((hL.new _ _).new _ _).new _ _).below hb11 | exact ((((hL.new _ _).new _ _).new _ _).new _ _).below hb11); (repeat rw [World.size_alloc] at hL); have hF := hL; (repeat unfold Loc at hF)
    go_wp2_with fail
    go_at_call 25
    refine (tsame_yes _ _ _ _ _ V _ (rd_grown (Own.rd tenc_len hownu7) (by repeat (first | with_reducible exact Below.refl _ _ | with_reducible assumption | (with_reducible exact Env.below (by assumption)) | (with_reducible refine below_new ?_ _) | (with_reducible refine below_drew ?_) | (with_reducible refine below_drewN ?_ _) | (with_reducible refine below_put ?_ ?_ _; rotate_left 1; (dsimp only; omega)) | (with_reducible refine below_then ?_ (by assumption))))) (rd_grown (Own.rd tenc_len hownu8) (by repeat (first | with_reducible exact Below.refl _ _ | with_reducible assumption | (with_reducible exact Env.below (by assumption)) | (with_reducible refine below_new ?_ _) | (with_reducible refine below_drew ?_) | (with_reducible refine below_drewN ?_ _) | (with_reducible refine below_put ?_ ?_ _; rotate_left 1; (dsimp only; omega)) | (with_reducible refine below_then ?_ (by assumption))))) (by omega) rfl).mono ?_
    rintro r w12 ⟨rfl, hb12⟩
    replace hL := (by with_reducible first | exact hL.below hb12 | exact (hL.new _ _).below hb12 | exact ((hL.new _ _).new _ _).below hb12 | exact (((hL.new _ _).new _ _).new _ _).below hb12 | exact ((((hL.new _ _).new _ _).new _ _).new _ _).below hb12); (repeat rw [World.size_alloc] at hL); have hF := hL; (repeat unfold Loc at hF)
    go_wp2_with fail
    go_at_call 24
    refine (HCK.out _ (rd_grown lr (by repeat (first | with_reducible exact Below.refl _ _ | with_reducible assumption | (with_reducible exact Env.below (by assumption)) | (with_reducible refine below_new ?_ _) | (with_reducible refine below_drew ?_) | (with_reducible refine below_drewN ?_ _) | (with_reducible refine below_put ?_ ?_ _; rotate_left 1; (dsimp only; omega)) | (with_reducible refine below_then ?_ (by assumption)))))).mono ?_
    rintro r w13 ⟨rfl, hb13⟩
    replace hL := (by with_reducible first | exact hL.below hb13 | exact (hL.new _ _).below hb13 | exact ((hL.new _ _).new _ _).below hb13 | exact (((hL.new _ _).new _ _).new _ _).below hb13 | exact ((((hL.new _ _).new _ _).new _ _).new _ _).below hb13); (repeat rw [World.size_alloc] at hL); have hF := hL; (repeat unfold Loc at hF)
    go_wp2_with fail
    go_at_call 22
    refine (RCK.out _ _ _ (rd_grown hrd2 (by repeat (first | with_reducible exact Below.refl _ _ | with_reducible assumption | (with_reducible exact Env.below (by assumption)) | (with_reducible refine below_new ?_ _) | (with_reducible refine below_drew ?_) | (with_reducible refine below_drewN ?_ _) | (with_reducible refine below_put ?_ ?_ _; rotate_left 1; (dsimp only; omega)) | (with_reducible refine below_then ?_ (by assumption)))))).mono ?_
    rintro r w14 ⟨rfl, hb14⟩
    replace hL := (by with_reducible first | exact hL.below hb14 | exact (hL.new _ _).below hb14 | exact ((hL.new _ _).new _ _).below hb14 | exact (((hL.new _ _).new _ _).new _ _).below hb14 | exact ((((hL.new _ _).new _ _).new _ _).new _ _).below hb14); (repeat rw [World.size_alloc] at hL); have hF := hL; (repeat unfold Loc at hF)
    go_wp2_with fail
    go_at_call 25
    refine (tsame_yes _ _ _ _ _ l _ (rd_grown lr (by repeat (first | with_reducible exact Below.refl _ _ | with_reducible assumption | (with_reducible exact Env.below (by assumption)) | (with_reducible refine below_new ?_ _) | (with_reducible refine below_drew ?_) | (with_reducible refine below_drewN ?_ _) | (with_reducible refine below_put ?_ ?_ _; rotate_left 1; (dsimp only; omega)) | (with_reducible refine below_then ?_ (by assumption))))) (rd_grown hrd2 (by repeat (first | with_reducible exact Below.refl _ _ | with_reducible assumption | (with_reducible exact Env.below (by assumption)) | (with_reducible refine below_new ?_ _) | (with_reducible refine below_drew ?_) | (with_reducible refine below_drewN ?_ _) | (with_reducible refine below_put ?_ ?_ _; rotate_left 1; (dsimp only; omega)) | (with_reducible refine below_then ?_ (by assumption))))) (by rw [← HN.out]; omega) HN.out.symm).mono ?_
    rintro r w15 ⟨rfl, hb15⟩
    go_wp2
    go_ret
    exact ⟨rfl, (by repeat (first | with_reducible exact Below.refl _ _ | with_reducible assumption | (with_reducible exact Env.below (by assumption)) | (with_reducible refine below_new ?_ _) | (with_reducible refine below_drew ?_) | (with_reducible refine below_drewN ?_ _) | (with_reducible refine below_put ?_ ?_ _; rotate_left 1; (dsimp only; omega)) | (with_reducible refine below_then ?_ (by assumption))))⟩
end Go.Proofs.Ytffehibdeogjeaa

/- Chapter 18: what the laws' walks use beyond the functions' contracts: appending to a row of one's own what may lie nowhere; heaps of valid timers behind pushing, popping and Until. No condition. -/
namespace Go.Proofs.Ytffehibdeogjeaa
open Go.RowKit

end Go.Proofs.Ytffehibdeogjeaa
