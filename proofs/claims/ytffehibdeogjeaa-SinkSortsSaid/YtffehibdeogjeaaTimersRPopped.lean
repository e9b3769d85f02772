/- The contract of the reference's Popped (chapter 18). Condition: a list that lies at an address, not empty, of at most 2^40 timers. -/
import Derived.Test.YtffehibdeogjeaaTimersUntil
namespace Go.Proofs.Ytffehibdeogjeaa
open Go.RowKit

theorem own_shape {α : Type} {enc : α → List Value} {sz : Nat} {w : World} {base : Nat} {e : TypeId} {v : Value} {l : List α} (h : Own enc sz w base e v l) : ∃ A c, v = .slice A l.length c := by
  rcases h.2 with ⟨h', h0⟩ | ⟨g, cap, cur, h', _⟩
  · exact ⟨none, 0, by rw [h', h0]⟩
  · exact ⟨_, _, h'⟩

set_option maxHeartbeats 8000000 in
set_option maxRecDepth 100000 in
theorem rpopped_any (b off c m : Nat) (l : List Tm) (w : World) (hm : l.length = m + 1) (hc : m + 1 ≤ c) (hn : m ≤ 1099511627776) (hbB : b < w.heap.size) (hr : Rd tenc 3 w w.heap.size (some ⟨b, off, none⟩) l) :
    Calls Try.prog 78 #[.slice (some ⟨b, off, none⟩) (m + 1) c] w fun e w' => ∃ v, e = .returned v ∧ Own tenc 3 w' w.heap.size 34 v (popL tlt t0 l) ∧ Below w.heap.size w w' := by
  obtain ⟨i0, hi0, hz0, hz1, hz2⟩ := info_parts tm_info
  obtain ⟨n, hn'⟩ : ∃ n, n = m + 1 := ⟨_, rfl⟩
  rw [← hn'] at hm hc ⊢
  obtain ⟨x, hx⟩ : ∃ x, l[m]? = some x := ⟨_, List.getElem?_eq_getElem (by omega)⟩
  have hpl : popL tlt t0 l = dn tlt t0 n ((l.set 0 x).take m) 0 := by rw [popL_of (lt := tlt) (d := t0) (by omega : l.length = m + 1) hx, hn']
  obtain ⟨b', off', e', -, c1, c2, c3⟩ := tm_cells hr hx
  simp only [Option.some.injEq, Addr.mk.injEq, and_true] at e'
  obtain ⟨rfl, rfl⟩ := e'
  have hflat := rd_flat tenc_len hr
  have hft : ((l.take m).flatMap tenc) = (l.flatMap tenc).take (m * 3) := by
    have e : l.flatMap tenc = (l.take m).flatMap tenc ++ (l.drop m).flatMap tenc := by rw [← List.flatMap_append, List.take_append_drop]
    rw [e, List.take_left' (by rw [flat_length tenc_len, List.length_take]; omega)]
  have hcel : ∀ j u, ((l.take m).flatMap tenc)[j]? = some u → w.cell? ((⟨b, off, none⟩ : Addr).add j) = some u := fun j u hj => hflat j u (by
    rw [hft, List.getElem?_take] at hj
    split at hj
    · exact hj
    · cases hj)
  have HM := Lib.hid hm; have HX := Lib.hid hx; have HP := Lib.hid hpl; have HF := Lib.hid hcel; have HN := Lib.hid hn'
  have e1 : IntKind.i64.wrap ((n : Int) - 1) = (m : Int) := by rw [IntWalk.i64_in _ (by omega)]; omega
  have i1 : (0 : Int) ≤ (m : Int) := by omega
  have i2 : (m : Int) < (n : Int) := by omega
  have i3 : (m : Int) ≤ (c : Int) := by omega
  have i4 : m ≤ c := by omega
  have htl : (l.take m).length = m := by rw [List.length_take]; omega
  have HTL := Lib.hid htl
  clear hx hpl hflat hft hcel hr hm htl hn'
  have hmade := Own.made (enc := tenc) (sz := 3) tenc_len w w.heap.size 34 [] w.heap.size rfl (Nat.le_refl _) (by simp [maxLen])
  have HMD := Lib.hid hmade
  clear hmade
  by_cases hz : m = 0
  · have b1 : ((m : Int) == 0) = true := by simp [hz]
    have hp0 : popL tlt t0 l = l.take m := by rw [popL_one (by rw [HM.out, HN.out, hz]), hz]; rfl
    have HP0 := Lib.hid hp0
    clear hz hp0
    go_enter Try.func78, Try.ntmps78
    go_wp2_with (first
      | (at_builtin; refine wpList_append_list rfl (.tmp 8) (.tmp 13) 22 rfl w.heap.size 34 i0 (.agg #[.int .i64 0, .int .i64 0, .int .i64 0]) 3 24 Try.underlying22 hi0 hz0 hz1 hz2 rfl (by decide) tenc tenc_len (.slice (some ⟨w.heap.size, 0, none⟩) 0 0) [] (l.take m) rfl HMD.out ⟨b, off, none⟩ m c rfl HTL.out (fun j u hj => (Below.cell (p := (⟨b, off, none⟩ : Addr).add j) ((Below.refl w.heap.size w).alloc (Nat.le_refl _) _) (by unfold Addr.add; split <;> simpa using hbB)).trans (HF.out j u hj)) (tenc_one _) (by unfold maxLen; simp; omega) (by simp; omega) (by simp) ?_; intro v w1 hown hgrow hbel; rw [List.nil_append] at hown; obtain ⟨Av, cv, hv⟩ := own_shape hown; rw [HTL.out] at hv; subst hv))
    go_ret
    have hb1 : Below w.heap.size w w1 := ((Below.refl w.heap.size w).alloc (Nat.le_refl _) _).trans hbel
    exact ⟨_, rfl, by rw [HP0.out]; exact hown, hb1⟩
  · have b1 : ((m : Int) == 0) = false := by simp [hz]
    have i5 : (0 : Int) < (m : Int) := by omega
    obtain ⟨y0, hy0⟩ : ∃ y, (l.take m)[0]? = some y := ⟨_, List.getElem?_eq_getElem (by rw [HTL.out]; omega)⟩
    have HY0 := Lib.hid hy0
    clear hy0
    go_enter Try.func78, Try.ntmps78
    go_wp2_with (first
      | (at_builtin; refine wpList_append_list rfl (.tmp 8) (.tmp 13) 22 rfl w.heap.size 34 i0 (.agg #[.int .i64 0, .int .i64 0, .int .i64 0]) 3 24 Try.underlying22 hi0 hz0 hz1 hz2 rfl (by decide) tenc tenc_len (.slice (some ⟨w.heap.size, 0, none⟩) 0 0) [] (l.take m) rfl HMD.out ⟨b, off, none⟩ m c rfl HTL.out (fun j u hj => (Below.cell (p := (⟨b, off, none⟩ : Addr).add j) ((Below.refl w.heap.size w).alloc (Nat.le_refl _) _) (by unfold Addr.add; split <;> simpa using hbB)).trans (HF.out j u hj)) (tenc_one _) (by unfold maxLen; simp; omega) (by simp; omega) (by simp) ?_; intro v w1 hown hgrow hbel; rw [List.nil_append] at hown; have hb1 : Below w.heap.size w w1 := ((Below.refl w.heap.size w).alloc (Nat.le_refl _) _).trans hbel; obtain ⟨g, cap, rfl, hbg, hglt⟩ := World.ownsRow.form hown (by rw [HTL.out]; omega); rw [HTL.out] at hown ⊢; have frz := own_frz hown HTL.out.symm; obtain ⟨g1, g2, g3, -⟩ := own_tm hown HY0.out; rw [Nat.zero_mul] at g1; rw [Nat.zero_mul, Nat.zero_add] at g2 g3; have F1 := (hb1.cell (p := ⟨b, off + m * 3, none⟩) hbB).trans c1; have F2 := (hb1.cell (p := ⟨b, off + m * 3 + 1, none⟩) hbB).trans c2; have F3 := (hb1.cell (p := ⟨b, off + m * 3 + 2, none⟩) hbB).trans c3; clear hgrow hbel))
    have hset := Own.set tenc_len hown HTL.out.symm 0 (by rw [HTL.out]; omega) x
    have hse : (l.take m).set 0 x = (l.set 0 x).take m := by rw [List.take_set]
    rw [hse] at hset
    have HSET := Lib.hid hset.1
    have hbs := hb1.grown hset.2 hb1.size (fun k hk => (by cases hk; exact hbg))
    have HBS := Lib.hid hbs
    clear hset hse hbs g1 g2 g3 F1 F2 F3 c1 c2 c3
    go_loopw [3, 4, 5] (fun o at_ r wr => ∃ (f i' r' g' cap' : Nat) (l' : List Tm), o = .slice (some ⟨g', 0, none⟩) m cap' ∧ at_ = .int .i64 i' ∧ r = .int .i64 r' ∧ f + r' = n ∧ l'.length = m ∧ i' < m ∧ m ≤ i' + f ∧ dn tlt t0 f l' i' = popL tlt t0 l ∧
      Own tenc 3 wr w.heap.size 34 (.slice (some ⟨g', 0, none⟩) m cap') l' ∧ Below w.heap.size w wr) (fun _ _ r _ => n - (intOf r).toNat)
    case atStart => exact ⟨n, 0, 0, g, cap, _, rfl, by go_num, by go_num, by omega, by rw [List.length_take, List.length_set, HM.out, HN.out]; omega, by omega, by rw [HN.out]; omega, HP.out.symm, HSET.out, HBS.out⟩
    case round =>
      obtain ⟨f, i', r', g', cap', l', rfl, rfl, rfl, hfr, hll, hin, hif, hdn, hown', hb⟩ := hrel
      clear hown frz
      have hown := hown'
      clear hown'
      have HLL := Lib.hid hll
      have HDN := Lib.hid hdn
      have b2 : decide ((r' : Int) < (n : Int)) = true := by simp; omega
      have b3 : decide (r' < n) = true := by simp; omega
      have b4 : IntKind.i64.wrap (2 * (i' : Int)) = 2 * (i' : Int) := IntWalk.i64_in _ (by omega)
      have b5 : IntKind.i64.wrap (2 * (i' : Int) + 1) = 2 * (i' : Int) + 1 := IntWalk.i64_in _ (by omega)
      have b6 : IntKind.i64.wrap (2 * (i' : Int) + 2) = 2 * (i' : Int) + 2 := IntWalk.i64_in _ (by omega)
      have b7 : IntKind.i64.wrap ((r' : Int) + 1) = (r' : Int) + 1 := IntWalk.i64_in _ (by have := HN.out; omega)
      clear hll hdn
      go_wp2
      go_loopw [6, 7] (fun best ch wi => ∃ j : Nat, j ≤ 2 ∧ best = .int .i64 (bsk tlt t0 l' i' j) ∧ ch = .int .i64 ((2 * i' + 1 + j : Nat) : Int) ∧ Below wr.heap.size wr wi) (fun _ ch _ => (2 * i' + 3) - (intOf ch).toNat)
      case atStart => exact ⟨0, by omega, rfl, by go_num, Below.refl _ _⟩
      case round =>
        obtain ⟨j, hj, rfl, rfl, hbi⟩ := hrel
        have hbl : bsk tlt t0 l' i' j < m := by have := bsk_lt (lt := tlt) (d := t0) l' i' (by rw [HLL.out]; exact hin) j; rwa [HLL.out] at this
        by_cases hgo : j < 2 ∧ 2 * i' + 1 + j < m
        · obtain ⟨hj2, hcm⟩ := hgo
          obtain ⟨B, hB⟩ : ∃ B, B = bsk tlt t0 l' i' j := ⟨_, rfl⟩
          obtain ⟨C, hC⟩ : ∃ C, C = 2 * i' + 1 + j := ⟨_, rfl⟩
          rw [← hB] at hbl ⊢
          rw [← hC]
          rw [← hC] at hcm
          obtain ⟨y, hy⟩ : ∃ y, l'[C]? = some y := ⟨_, List.getElem?_eq_getElem (by rw [HLL.out]; exact hcm)⟩
          obtain ⟨z, hz2⟩ : ∃ z, l'[B]? = some z := ⟨_, List.getElem?_eq_getElem (by rw [HLL.out]; exact hbl)⟩
          have hnx : bsk tlt t0 l' i' (j + 1) = if tlt y z = true then C else B := by
            rw [bsk, ← hC, ← hB, getD_some hy, getD_some hz2, HLL.out]
            simp [hcm]
          have HNX := Lib.hid hnx; have HC := Lib.hid hC
          obtain ⟨p1, p2, p3, hglt⟩ := own_tm (hown.below hbi) hy
          obtain ⟨q1, q2, q3, -⟩ := own_tm (hown.below hbi) hz2
          have hE : Env wr [] wr := ⟨Below.refl _ _, trivial⟩
          have hR : ∀ X, Env wr [] X → X.cell? ⟨g', C * 3, none⟩ = some (.int .i64 y.s) ∧ X.cell? ⟨g', C * 3 + 1, none⟩ = some (.int .i64 y.e) ∧ X.cell? ⟨g', C * 3 + 2, none⟩ = some (.int .i64 y.k) ∧
              X.cell? ⟨g', B * 3, none⟩ = some (.int .i64 z.s) ∧ X.cell? ⟨g', B * 3 + 1, none⟩ = some (.int .i64 z.e) ∧ X.cell? ⟨g', B * 3 + 2, none⟩ = some (.int .i64 z.k) := fun X hX =>
            ⟨(hX.1.cell (p := ⟨g', C * 3, none⟩) hglt).trans p1, (hX.1.cell (p := ⟨g', C * 3 + 1, none⟩) hglt).trans p2, (hX.1.cell (p := ⟨g', C * 3 + 2, none⟩) hglt).trans p3,
              (hX.1.cell (p := ⟨g', B * 3, none⟩) hglt).trans q1, (hX.1.cell (p := ⟨g', B * 3 + 1, none⟩) hglt).trans q2, (hX.1.cell (p := ⟨g', B * 3 + 2, none⟩) hglt).trans q3⟩
          have d1 : decide ((C : Int) ≤ 2 * (i' : Int) + 2) = true := by simp; omega
          have d2 : decide ((C : Int) < (m : Int)) = true := by simp; omega
          have d3 : decide (C < m) = true := by simp; omega
          have d4 : IntKind.i64.wrap ((C : Int) + 1) = (C : Int) + 1 := IntWalk.i64_in _ (by omega)
          have j1 : (0 : Int) ≤ (C : Int) := by omega
          have j2 : (C : Int) < (m : Int) := by omega
          have j3 : (0 : Int) ≤ (B : Int) := by omega
          have j4 : (B : Int) < (m : Int) := by omega
          clear p1 p2 p3 q1 q2 q3 hy hz2 hB hC hnx
          by_cases hlt : tlt y z = true
          · go_wp2_with fail
            refine wp_region_held_drew (S := Env wr []) (by kernel_rfl) (by (first | assumption | exact Env.step (by assumption) (by assumption) | exact Env.old (by assumption) _ | exact Env.drew hE | exact hE | exact Env.drew (by assumption) | exact Env.drew (Env.old (by assumption) _) | ((repeat first | refine Env.far0 ?_ (by assumption) _ | refine Env.far1 ?_ (by assumption) _ | refine Env.farA ?_ (by assumption) _); assumption))) (fun hHeld => ?_)
            refine hTake 0 (by kernel_rfl) (by kernel_rfl) (by kernel_rfl) (by decide) (by assumption) ?_; (intro oi hoi; simp only [List.getElem?_toArray, List.getElem?_cons_zero] at hoi; obtain rfl := Option.some.inj hoi; clear hoi); refine ⟨rfl, ?_⟩; apply Exists.intro; refine ⟨?_, fun _ _ _ h => h, ?_⟩; (intro w hSw; (try dsimp only at hSw); go_simp; (try with_reducible rfl)); (try simp only [Act.put, List.setIfInBounds_toArray, List.set_cons_zero, List.set_cons_succ]); refine hTake 1 (by kernel_rfl) (by kernel_rfl) (by kernel_rfl) (by decide) (by assumption) ?_; (intro oi hoi; simp only [List.getElem?_toArray, List.getElem?_cons_succ, List.getElem?_cons_zero] at hoi; obtain rfl := Option.some.inj hoi; clear hoi); refine ⟨rfl, ?_⟩; apply Exists.intro; refine ⟨?_, fun _ _ _ h => h, ?_⟩; (intro w hSw; (try dsimp only at hSw); go_simp; (try with_reducible rfl)); (try simp only [Act.put, List.setIfInBounds_toArray, List.set_cons_zero, List.set_cons_succ]); refine hTake 2 (by kernel_rfl) (by kernel_rfl) (by kernel_rfl) (by decide) (by assumption) ?_; (intro oi hoi; simp only [List.getElem?_toArray, List.getElem?_cons_succ, List.getElem?_cons_zero] at hoi; obtain rfl := Option.some.inj hoi; clear hoi); refine ⟨rfl, ?_⟩; apply Exists.intro; refine ⟨?_, fun _ _ _ h => h, ?_⟩; (intro w hSw; (try dsimp only at hSw); go_simp; (try with_reducible rfl)); (try simp only [Act.put, List.setIfInBounds_toArray, List.set_cons_zero, List.set_cons_succ]); refine hTake 3 (by kernel_rfl) (by kernel_rfl) (by kernel_rfl) (by decide) (by assumption) ?_; (intro oi hoi; simp only [List.getElem?_toArray, List.getElem?_cons_succ, List.getElem?_cons_zero] at hoi; obtain rfl := Option.some.inj hoi; clear hoi); refine ⟨rfl, ?_⟩; apply Exists.intro; refine ⟨?_, fun _ _ _ h => h, ?_⟩; (intro w hSw; (try dsimp only at hSw); go_simp; (try with_reducible rfl)); (try simp only [Act.put, List.setIfInBounds_toArray, List.set_cons_zero, List.set_cons_succ]); refine hTake 4 (by kernel_rfl) (by kernel_rfl) (by kernel_rfl) (by decide) (by assumption) ?_; (intro oi hoi; simp only [List.getElem?_toArray, List.getElem?_cons_succ, List.getElem?_cons_zero] at hoi; obtain rfl := Option.some.inj hoi; clear hoi); refine ⟨rfl, ?_⟩; apply Exists.intro; refine ⟨?_, fun _ _ _ h => h, ?_⟩; (intro w hSw; (try dsimp only at hSw); go_simp; (try with_reducible rfl)); (try simp only [Act.put, List.setIfInBounds_toArray, List.set_cons_zero, List.set_cons_succ]); refine hTake 5 (by kernel_rfl) (by kernel_rfl) (by kernel_rfl) (by decide) (by assumption) ?_; (intro oi hoi; simp only [List.getElem?_toArray, List.getElem?_cons_succ, List.getElem?_cons_zero] at hoi; obtain rfl := Option.some.inj hoi; clear hoi); refine ⟨rfl, ?_⟩; apply Exists.intro; refine ⟨?_, fun _ _ _ h => h, ?_⟩; (intro w hSw; (try dsimp only at hSw); go_simp; (try with_reducible rfl)); (try simp only [Act.put, List.setIfInBounds_toArray, List.set_cons_zero, List.set_cons_succ]); refine hTake 6 (by kernel_rfl) (by kernel_rfl) (by kernel_rfl) (by decide) (by assumption) ?_; (intro oi hoi; simp only [List.getElem?_toArray, List.getElem?_cons_succ, List.getElem?_cons_zero] at hoi; obtain rfl := Option.some.inj hoi; clear hoi); refine ⟨rfl, ?_⟩; apply Exists.intro; refine ⟨?_, fun _ _ _ h => h, ?_⟩; (intro w hSw; (try dsimp only at hSw); go_simp; (try with_reducible rfl)); (try simp only [Act.put, List.setIfInBounds_toArray, List.set_cons_zero, List.set_cons_succ]); refine hTake 7 (by kernel_rfl) (by kernel_rfl) (by kernel_rfl) (by decide) (by assumption) ?_; (intro oi hoi; simp only [List.getElem?_toArray, List.getElem?_cons_succ, List.getElem?_cons_zero] at hoi; obtain rfl := Option.some.inj hoi; clear hoi); refine ⟨rfl, ?_⟩; apply Exists.intro; refine ⟨?_, fun _ _ _ h => h, ?_⟩; (intro w hSw; (try dsimp only at hSw); go_simp; (try with_reducible rfl)); (try simp only [Act.put, List.setIfInBounds_toArray, List.set_cons_zero, List.set_cons_succ])
            refine hOnly 8 (by kernel_rfl) (by decide) ?_; (intro oi hoi; simp only [List.getElem?_toArray, List.getElem?_cons_succ, List.getElem?_cons_zero] at hoi; obtain rfl := Option.some.inj hoi; clear hoi); intro K hK; go_simp
            go_at_call 29
            refine (rtless_any y z _).mono ?_
            rw [hlt]
            rintro e w6 ⟨rfl, hb6⟩
            have hEhb6 := Env.step hb6 (by assumption); (try (have hqhb6 := (by with_reducible first | exact Loc.below hb6 (Loc.new (Loc.nil _) _ _) | exact Loc.below hb6 (Loc.drew (Loc.new (Loc.nil _) _ _)) | exact Loc.below hb6 (by assumption : Loc _ [_])); (repeat rw [World.size_drew] at hqhb6); (repeat rw [World.size_alloc] at hqhb6); have hrhb6 := hqhb6; (repeat unfold Loc at hrhb6)))
            (refine hK.out _ _ (by (first | assumption | exact Env.step (by assumption) (by assumption) | exact Env.old (by assumption) _ | exact Env.drew hE | exact hE | exact Env.drew (by assumption) | exact Env.drew (Env.old (by assumption) _) | ((repeat first | refine Env.far0 ?_ (by assumption) _ | refine Env.far1 ?_ (by assumption) _ | refine Env.farA ?_ (by assumption) _); assumption))) (fun hHeld => ?_); clear hK K; (try simp only [Act.put, List.setIfInBounds_toArray, List.set_cons_zero, List.set_cons_succ]))
            refine wpAnyH_done (by kernel_rfl) ?_ _
            have hbj := below_then hbi hHeld.1
            go_wp2
            go_roundw
            case rel => exact ⟨j + 1, by omega, by rw [HNX.out, if_pos hlt], by rw [HC.out]; go_num, hbj⟩
            case measure => simp [intOf, HC.out]; omega
          · have hlt' : tlt y z = false := by simpa using hlt
            go_wp2_with fail
            refine wp_region_held_drew (S := Env wr []) (by kernel_rfl) (by (first | assumption | exact Env.step (by assumption) (by assumption) | exact Env.old (by assumption) _ | exact Env.drew hE | exact hE | exact Env.drew (by assumption) | exact Env.drew (Env.old (by assumption) _) | ((repeat first | refine Env.far0 ?_ (by assumption) _ | refine Env.far1 ?_ (by assumption) _ | refine Env.farA ?_ (by assumption) _); assumption))) (fun hHeld => ?_)
            refine hTake 0 (by kernel_rfl) (by kernel_rfl) (by kernel_rfl) (by decide) (by assumption) ?_; (intro oi hoi; simp only [List.getElem?_toArray, List.getElem?_cons_zero] at hoi; obtain rfl := Option.some.inj hoi; clear hoi); refine ⟨rfl, ?_⟩; apply Exists.intro; refine ⟨?_, fun _ _ _ h => h, ?_⟩; (intro w hSw; (try dsimp only at hSw); go_simp; (try with_reducible rfl)); (try simp only [Act.put, List.setIfInBounds_toArray, List.set_cons_zero, List.set_cons_succ]); refine hTake 1 (by kernel_rfl) (by kernel_rfl) (by kernel_rfl) (by decide) (by assumption) ?_; (intro oi hoi; simp only [List.getElem?_toArray, List.getElem?_cons_succ, List.getElem?_cons_zero] at hoi; obtain rfl := Option.some.inj hoi; clear hoi); refine ⟨rfl, ?_⟩; apply Exists.intro; refine ⟨?_, fun _ _ _ h => h, ?_⟩; (intro w hSw; (try dsimp only at hSw); go_simp; (try with_reducible rfl)); (try simp only [Act.put, List.setIfInBounds_toArray, List.set_cons_zero, List.set_cons_succ]); refine hTake 2 (by kernel_rfl) (by kernel_rfl) (by kernel_rfl) (by decide) (by assumption) ?_; (intro oi hoi; simp only [List.getElem?_toArray, List.getElem?_cons_succ, List.getElem?_cons_zero] at hoi; obtain rfl := Option.some.inj hoi; clear hoi); refine ⟨rfl, ?_⟩; apply Exists.intro; refine ⟨?_, fun _ _ _ h => h, ?_⟩; (intro w hSw; (try dsimp only at hSw); go_simp; (try with_reducible rfl)); (try simp only [Act.put, List.setIfInBounds_toArray, List.set_cons_zero, List.set_cons_succ]); refine hTake 3 (by kernel_rfl) (by kernel_rfl) (by kernel_rfl) (by decide) (by assumption) ?_; (intro oi hoi; simp only [List.getElem?_toArray, List.getElem?_cons_succ, List.getElem?_cons_zero] at hoi; obtain rfl := Option.some.inj hoi; clear hoi); refine ⟨rfl, ?_⟩; apply Exists.intro; refine ⟨?_, fun _ _ _ h => h, ?_⟩; (intro w hSw; (try dsimp only at hSw); go_simp; (try with_reducible rfl)); (try simp only [Act.put, List.setIfInBounds_toArray, List.set_cons_zero, List.set_cons_succ]); refine hTake 4 (by kernel_rfl) (by kernel_rfl) (by kernel_rfl) (by decide) (by assumption) ?_; (intro oi hoi; simp only [List.getElem?_toArray, List.getElem?_cons_succ, List.getElem?_cons_zero] at hoi; obtain rfl := Option.some.inj hoi; clear hoi); refine ⟨rfl, ?_⟩; apply Exists.intro; refine ⟨?_, fun _ _ _ h => h, ?_⟩; (intro w hSw; (try dsimp only at hSw); go_simp; (try with_reducible rfl)); (try simp only [Act.put, List.setIfInBounds_toArray, List.set_cons_zero, List.set_cons_succ]); refine hTake 5 (by kernel_rfl) (by kernel_rfl) (by kernel_rfl) (by decide) (by assumption) ?_; (intro oi hoi; simp only [List.getElem?_toArray, List.getElem?_cons_succ, List.getElem?_cons_zero] at hoi; obtain rfl := Option.some.inj hoi; clear hoi); refine ⟨rfl, ?_⟩; apply Exists.intro; refine ⟨?_, fun _ _ _ h => h, ?_⟩; (intro w hSw; (try dsimp only at hSw); go_simp; (try with_reducible rfl)); (try simp only [Act.put, List.setIfInBounds_toArray, List.set_cons_zero, List.set_cons_succ]); refine hTake 6 (by kernel_rfl) (by kernel_rfl) (by kernel_rfl) (by decide) (by assumption) ?_; (intro oi hoi; simp only [List.getElem?_toArray, List.getElem?_cons_succ, List.getElem?_cons_zero] at hoi; obtain rfl := Option.some.inj hoi; clear hoi); refine ⟨rfl, ?_⟩; apply Exists.intro; refine ⟨?_, fun _ _ _ h => h, ?_⟩; (intro w hSw; (try dsimp only at hSw); go_simp; (try with_reducible rfl)); (try simp only [Act.put, List.setIfInBounds_toArray, List.set_cons_zero, List.set_cons_succ]); refine hTake 7 (by kernel_rfl) (by kernel_rfl) (by kernel_rfl) (by decide) (by assumption) ?_; (intro oi hoi; simp only [List.getElem?_toArray, List.getElem?_cons_succ, List.getElem?_cons_zero] at hoi; obtain rfl := Option.some.inj hoi; clear hoi); refine ⟨rfl, ?_⟩; apply Exists.intro; refine ⟨?_, fun _ _ _ h => h, ?_⟩; (intro w hSw; (try dsimp only at hSw); go_simp; (try with_reducible rfl)); (try simp only [Act.put, List.setIfInBounds_toArray, List.set_cons_zero, List.set_cons_succ])
            refine hOnly 8 (by kernel_rfl) (by decide) ?_; (intro oi hoi; simp only [List.getElem?_toArray, List.getElem?_cons_succ, List.getElem?_cons_zero] at hoi; obtain rfl := Option.some.inj hoi; clear hoi); intro K hK; go_simp
            go_at_call 29
            refine (rtless_any y z _).mono ?_
            rw [hlt']
            rintro e w6 ⟨rfl, hb6⟩
            have hEhb6 := Env.step hb6 (by assumption); (try (have hqhb6 := (by with_reducible first | exact Loc.below hb6 (Loc.new (Loc.nil _) _ _) | exact Loc.below hb6 (Loc.drew (Loc.new (Loc.nil _) _ _)) | exact Loc.below hb6 (by assumption : Loc _ [_])); (repeat rw [World.size_drew] at hqhb6); (repeat rw [World.size_alloc] at hqhb6); have hrhb6 := hqhb6; (repeat unfold Loc at hrhb6)))
            (refine hK.out _ _ (by (first | assumption | exact Env.step (by assumption) (by assumption) | exact Env.old (by assumption) _ | exact Env.drew hE | exact hE | exact Env.drew (by assumption) | exact Env.drew (Env.old (by assumption) _) | ((repeat first | refine Env.far0 ?_ (by assumption) _ | refine Env.far1 ?_ (by assumption) _ | refine Env.farA ?_ (by assumption) _); assumption))) (fun hHeld => ?_); clear hK K; (try simp only [Act.put, List.setIfInBounds_toArray, List.set_cons_zero, List.set_cons_succ]))
            refine wpAnyH_done (by kernel_rfl) ?_ _
            have hbj := below_then hbi hHeld.1
            go_wp2
            go_roundw
            case rel => exact ⟨j + 1, by omega, by rw [HNX.out, if_neg hlt], by rw [HC.out]; go_num, hbj⟩
            case measure => simp [intOf, HC.out]; omega
        · have hbe : bsk tlt t0 l' i' j = bsk tlt t0 l' i' 2 := by
            by_cases hj2 : j = 2
            · rw [hj2]
            · have := bsk_out (lt := tlt) (d := t0) l' i' (2 - j) j (by rw [HLL.out]; omega)
              rw [← this, show j + (2 - j) = 2 by omega]
          rw [hbe] at hbl ⊢
          obtain ⟨B, hB⟩ : ∃ B, B = bsk tlt t0 l' i' 2 := ⟨_, rfl⟩
          obtain ⟨C, hC⟩ : ∃ C, C = 2 * i' + 1 + j := ⟨_, rfl⟩
          rw [← hB] at hbl ⊢
          rw [← hC]
          have HB := Lib.hid hB
          have hown6 := hown.below hbi
          have hb6 := below_then hb hbi
          have dd : (decide ((C : Int) ≤ 2 * (i' : Int) + 2) = true ∧ decide ((C : Int) < (m : Int)) = false ∧ decide (C < m) = false) ∨ decide ((C : Int) ≤ 2 * (i' : Int) + 2) = false := by
            by_cases hj2 : j = 2
            · right; simp; omega
            · left; simp; omega
          have j3 : (0 : Int) ≤ (B : Int) := by omega
          have j4 : (B : Int) < (m : Int) := by omega
          clear hB hC hgo hbe
          by_cases hst : B = i'
          · have hz3 : dn tlt t0 f l' i' = l' := bsk_stop tsto f (by rw [← HB.out, hst])
            have HZ := Lib.hid hz3
            have k2 : ((B : Int) == (i' : Int)) = true := by simp [hst]
            clear hz3 hst
            rcases dd with ⟨d1, d2, d3⟩ | d1
            all_goals
              go_wp2
              go_ret
              exact ⟨_, rfl, by rw [← HDN.out, HZ.out]; exact hown6, hb6⟩
          · obtain ⟨f', e0, e1, e2⟩ := bsk_step tsto (m := f) (l := l') (i := i') (by rw [HLL.out]; exact hif) (by rw [← HB.out]; exact hst)
            rw [← HB.out] at e1 e2
            rw [HLL.out] at e2
            have E1 := Lib.hid e1
            have k2 : ((B : Int) == (i' : Int)) = false := by simp; omega
            have hne : i' ≠ B := by omega
            clear e1
            rcases dd with ⟨d1, d2, d3⟩ | d1
            all_goals
              go_wp2_with (go_at_call 105; refine (rswapped_len (some ⟨g', 0, none⟩) cap' m l' i' B _ HLL.out hin hbl hne (by omega) (Own.rd tenc_len hown6)).mono ?_; rintro e w7 ⟨v7, rfl, hown7, hb7⟩)
              go_roundw
              case rel =>
                obtain ⟨g7, cap7, hv7, -, -⟩ := World.ownsRow.form hown7 (by rw [sw_length, HLL.out]; omega)
                rw [sw_length, HLL.out] at hv7
                subst hv7
                exact ⟨f', B, r' + 1, g7, cap7, sw t0 l' i' B, rfl, rfl, by go_num, by omega, by rw [sw_length, HLL.out], hbl, e2, by rw [← E1.out, HDN.out], hown7.mono hb6.size, below_then hb6 hb7⟩
              case measure => simp [intOf]; omega
end Go.Proofs.Ytffehibdeogjeaa
