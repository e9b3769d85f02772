/- The walk of PanesParts: the panes of a window follow each other, from its start to its end. No condition. -/
import Derived.Test.YtbbdepeifdbbdaaPaneLaw
namespace Go.Proofs.Ytbbdepeifdbbdaa
open Go.RowKit Go.ChangeShapes Go.WideShapes Go.ChangeAt Go.Deep

theorem partsL_get {a g : Int} {n k : Nat} (h : k < n) : (partsL a g n)[k]? = some (a + (k : Int) * g, a + (k : Int) * g + g) := by
  unfold partsL
  rw [List.getElem?_map, List.getElem?_range h]
  rfl
set_option maxHeartbeats 16000000 in
set_option maxRecDepth 100000 in
theorem panesParts_walk (wk : Int) (_wwk : (Lit.int .u8 wk).wf = true) (ws : Int) (wws : (Lit.int .i64 ws).wf = true) (we : Int) (wwe : (Lit.int .i64 we).wf = true) (t : Int) (_wt : (Lit.int .i64 t).wf = true) (w : World) :
    Calls Try.prog 6 #[.agg #[.int .u8 wk, .int .i64 ws, .int .i64 we], .int .i64 t] w fun r w' => r = .returned (.bool true) ∧ Below w.heap.size w w' := by
  have hs := fun W => asked_any wk ws we wwe W
  obtain ⟨C, hC⟩ : ∃ C, C = slchk wk ws we := ⟨_, rfl⟩
  rw [← hC] at hs
  have HSL := Lib.hid hs
  have htc := fun W => rcheck_any t 1 W
  obtain ⟨D, hD⟩ : ∃ D, D = tchk t 1 := ⟨_, rfl⟩
  rw [← hD] at htc
  have HTC := Lib.hid htc
  have hl0 : Loc (w.alloc (.cells #[.int .u8 wk, .int .i64 ws, .int .i64 we] 23)) [(w.heap.size, [.int .u8 wk, .int .i64 ws, .int .i64 we])] := (Loc.nil w).new [.int .u8 wk, .int .i64 ws, .int .i64 we] 23
  have hb0 : Below w.heap.size w (w.alloc (.cells #[.int .u8 wk, .int .i64 ws, .int .i64 we] 23)) := below_new (Below.refl _ _) _
  clear hs htc
  by_cases hC0 : C = 0
  · by_cases hD0 : D = 0
    · obtain ⟨hwok, rfl⟩ := slchk_zero.1 (hC.symm.trans hC0)
      have hta : -1099511627776 ≤ t ∧ t ≤ 1099511627776 := by have := tchk_zero.1 (hD.symm.trans hD0); exact ⟨this.2.2.1, this.2.2.2⟩
      have HW := Lib.hid hwok
      obtain ⟨⟨s1, s2⟩, hw2⟩ := hwok
      have hw3 : 1 ≤ we ∧ we ≤ ws ∧ ws ≤ 16 * we := by omega
      have hsr : sright ws we := ⟨s1, hw3.1, s2, hw3.2.1, hw3.2.2⟩
      obtain ⟨G, n, q2, g1, g2, g3, g4, g5, g6, g7, g8⟩ := gcd_facts (show 0 < ws by omega) (show 0 < we by omega)
      have hsz := fun W => size_any ws we wws wwe W
      rw [show psize ws we = ((G : Int), 0) by unfold psize; rw [if_pos hsr, g1]] at hsz
      have hof := fun W => slof_any 2 ws we t wwe W
      rw [wof_ok HW.out (by decide) hta.1 hta.2] at hof
      obtain ⟨T, hT⟩ : ∃ T, T = wspans 2 ws we t := ⟨_, rfl⟩
      rw [← hT] at hof
      have hTl : T.length ≤ 16 := by rw [hT]; exact wspans_16 HW.out (by decide)
      have hTq : ∀ q ∈ T, q.2 = q.1 + ws ∧ q.1 % we = 0 ∧ -1100585369600 ≤ q.1 ∧ q.1 ≤ 1099511627776 := fun q hq => by
        rw [hT] at hq
        have := (mem_wspans HW.out (by decide) hta.1 hta.2 q).1 hq
        unfold evW at this
        rw [if_neg (by decide)] at this
        omega
      obtain ⟨lt, hlt⟩ : ∃ lt, T.length = lt := ⟨_, rfl⟩
      rw [hlt] at hTl
      have hGG : (G : Int) ≤ 1073741824 := by
        have : (1 : Int) * G ≤ n * G := Int.mul_le_mul_of_nonneg_right (by omega) (by omega)
        omega
      have hnn : (n : Int) ≤ 1073741824 := by
        have : (n : Int) * 1 ≤ n * G := Int.mul_le_mul_of_nonneg_left (by omega) (by omega)
        omega
      have hpp : ∀ a, pparts 2 ws we a (a + ws) = if (a < -1099511627776 ∨ 1099511627776 < a) ∨ a % we ≠ 0 then ([], 2) else if 4000 < (n : Int) then ([], 4) else (partsL a G n, 0) := fun a => by
        unfold pparts
        rw [if_neg (by rw [← hC]; simp [hC0]), g1, g7]
        by_cases h : (a < -1099511627776 ∨ 1099511627776 < a) ∨ a % we ≠ 0
        · rw [if_pos h, if_pos (by rcases h with h | h; exact .inl h; exact .inr (.inl h))]
        · rw [if_neg h, if_neg (by rintro (h1 | h1 | h1); exact h (.inl h1); exact h (.inr h1); exact h1 rfl)]
          simp
      have hG0 : (G : Int) ≠ 0 := by omega
      have hG1 : (1 : Int) ≤ (G : Int) := by omega
      have HSZ := Lib.hid hsz; have HOF := Lib.hid hof; have HTQ := Lib.hid hTq; have HLT := Lib.hid hlt; have HPP := Lib.hid hpp; have HQ := Lib.hid g8; have H5 := Lib.hid g5; have H7 := Lib.hid g7
      subst hC0 hD0
      clear hsz hof hTq hlt hpp hT hw2 hC hD g1 g5 g6 g7 g8 hsr
      go_enter Try.func6, Try.ntmps6
      go_wp2_with fail
      go_at_call 34
      refine (alive19 _).mono ?_
      rintro r w2 ⟨rfl, hb2⟩
      have hl2 := hl0.below hb2
      have hbb2 := below_then hb0 hb2
      clear hl0 hb0 hb2
      have hF := hl2
      (repeat unfold Loc at hF)
      go_wp2_with fail
      go_at_call 35
      refine (HSL.out _).mono ?_
      rintro r w3 ⟨rfl, hb3⟩
      have hl3 := hl2.below hb3
      have hbb3 := below_then hbb2 hb3
      clear hF hl2 hbb2 hb3
      have hF := hl3
      (repeat unfold Loc at hF)
      go_wp2_with fail
      go_at_call 18
      refine (HTC.out _).mono ?_
      rintro r w4 ⟨rfl, rfl⟩
      go_wp2_with fail
      go_at_call 25
      refine (HSZ.out _).mono ?_
      rintro r w5 ⟨rfl, hb5⟩
      have hl5 := hl3.below hb5
      have hbb5 := below_then hbb3 hb5
      clear hF hl3 hbb3 hb5
      have hF := hl5
      (repeat unfold Loc at hF)
      go_wp2_with fail
      go_at_call 36
      refine (HOF.out _).mono ?_
      rintro r w6 ⟨v6, rfl, own6, hb6⟩
      obtain ⟨A6, c6, rfl, -⟩ := own_shape_n own6 HLT.out
      have hl6 := hl5.below hb6
      have hbb6 := below_then hbb5 hb6
      clear hF hl5 hbb5 hb6
      have hF := hl6
      (repeat unfold Loc at hF)
      go_wp2_with fail
      go_loopw [10] (fun iv wr => ∃ i : Nat, iv = .int .i64 i ∧ i ≤ lt ∧ Loc wr [(w.heap.size, [.int .u8 2, .int .i64 ws, .int .i64 we])] ∧ Below w.heap.size w wr ∧ Own senc 2 wr w5.heap.size 38 (.slice A6 lt c6) T) (fun iv _ => lt - (intOf iv).toNat)
      case atStart => exact ⟨0, rfl, Nat.zero_le _, hl6, hbb6, own6⟩
      case round =>
        obtain ⟨i, rfl, hi, hl, hb, own⟩ := hrel
        clear hF hl6 hbb6 own6
        have hF := hl
        (repeat unfold Loc at hF)
        by_cases hilt : i < lt
        · obtain ⟨⟨a, b⟩, hq⟩ : ∃ q, T[i]? = some q := ⟨_, List.getElem?_eq_getElem (by rw [HLT.out]; exact hilt)⟩
          obtain ⟨t1, t2, t3, t4⟩ := HTQ.out _ (List.mem_of_getElem? hq)
          dsimp only at t1 t2 t3 t4
          subst t1
          have hrd := Own.rd senc_len own
          obtain ⟨b', off', hA6, hbb', f0, f1⟩ := span_cells hrd hq
          dsimp only at f0 f1
          subst hA6
          have d5 : decide ((i : Int) < (lt : Int)) = true := by simp; omega
          have d5' : decide (i < lt) = true := by simp [hilt]
          have k1 : (0 : Int) ≤ (i : Int) := by omega
          have k2 : (i : Int) < (lt : Int) := by omega
          have e1 : IntKind.i64.wrap ((i : Int) + 1) = (i : Int) + 1 := IntWalk.i64_in _ (by omega)
          obtain ⟨⟨pl, er⟩, hPQ⟩ : ∃ P, P = pparts 2 ws we a (a + ws) := ⟨_, rfl⟩
          obtain ⟨pm, hpm⟩ : ∃ pm, pl.length = pm := ⟨_, rfl⟩
          have hpa := HPP.out a
          rw [← hPQ] at hpa
          have HPQ := Lib.hid hPQ; have HPM := Lib.hid hpm
          have hcl : ∀ W, Calls Try.prog 27 #[.agg #[.int .u8 2, .int .i64 ws, .int .i64 we], .agg #[.int .i64 a, .int .i64 (a + ws)]] W (PartsP 2 ws we a (a + ws) W) := fun W => parts_any 2 ws we a (a + ws) wwe W
          have htc2 := fun W => rcheck_any a 1 W
          obtain ⟨D2, hD2⟩ : ∃ D, D = tchk a 1 := ⟨_, rfl⟩
          rw [← hD2] at htc2
          have HTC2 := Lib.hid htc2; have HCL := Lib.hid hcl; have HPA := Lib.hid hpa; have HD2 := Lib.hid hD2
          clear htc2 hcl hpa hq hilt hPQ hpm hD2
          obtain ⟨lE, hE, hRR⟩ := Env.abs (w0 := wr) (Below.refl _ _) hl
          (repeat unfold Loc at hRR)
          have hRg : ∀ X, Env wr lE X → X.cell? ⟨b', off' + i * 2, none⟩ = some (.int .i64 a) ∧ X.cell? ⟨b', off' + i * 2 + 1, none⟩ = some (.int .i64 (a + ws)) := fun X hX => ⟨(hX.1.cell (p := ⟨b', off' + i * 2, none⟩) hbb').trans f0, (hX.1.cell (p := ⟨b', off' + i * 2 + 1, none⟩) hbb').trans f1⟩
          have HG0 := Lib.hid f0; have HG1 := Lib.hid f1
          clear f0 f1
          go_wp2_with fail
          clear hF
          refine wp_region_held_drew (S := Env wr lE) (by kernel_rfl) (by (first | assumption | exact Env.step (by assumption) (by assumption) | exact Env.old (by assumption) _ | exact Env.drew hE | exact hE | exact Env.drew (by assumption) | exact Env.drew (Env.old (by assumption) _) | ((repeat first | refine Env.far0 ?_ (by assumption) _ | refine Env.far1 ?_ (by assumption) _ | refine Env.farA ?_ (by assumption) _); assumption))) (fun hHeld => ?_)
          refine hTake 0 (by kernel_rfl) (by kernel_rfl) (by kernel_rfl) (by decide) (by assumption) ?_; (intro oi hoi; simp only [List.getElem?_toArray, List.getElem?_cons_zero] at hoi; obtain rfl := Option.some.inj hoi; clear hoi); refine ⟨rfl, ?_⟩; apply Exists.intro; refine ⟨?_, fun _ _ _ h => h, ?_⟩; (intro w hSw; (try dsimp only at hSw); go_simp; (try with_reducible rfl)); (try simp only [Act.put, List.setIfInBounds_toArray, List.set_cons_zero, List.set_cons_succ]); refine hTake 1 (by kernel_rfl) (by kernel_rfl) (by kernel_rfl) (by decide) (by assumption) ?_; (intro oi hoi; simp only [List.getElem?_toArray, List.getElem?_cons_succ, List.getElem?_cons_zero] at hoi; obtain rfl := Option.some.inj hoi; clear hoi); refine ⟨rfl, ?_⟩; apply Exists.intro; refine ⟨?_, fun _ _ _ h => h, ?_⟩; (intro w hSw; (try dsimp only at hSw); go_simp; (try with_reducible rfl)); (try simp only [Act.put, List.setIfInBounds_toArray, List.set_cons_zero, List.set_cons_succ]); refine hTake 2 (by kernel_rfl) (by kernel_rfl) (by kernel_rfl) (by decide) (by assumption) ?_; (intro oi hoi; simp only [List.getElem?_toArray, List.getElem?_cons_succ, List.getElem?_cons_zero] at hoi; obtain rfl := Option.some.inj hoi; clear hoi); refine ⟨rfl, ?_⟩; apply Exists.intro; refine ⟨?_, fun _ _ _ h => h, ?_⟩; (intro w hSw; (try dsimp only at hSw); go_simp; (try with_reducible rfl)); (try simp only [Act.put, List.setIfInBounds_toArray, List.set_cons_zero, List.set_cons_succ]); refine hTake 3 (by kernel_rfl) (by kernel_rfl) (by kernel_rfl) (by decide) (by assumption) ?_; (intro oi hoi; simp only [List.getElem?_toArray, List.getElem?_cons_succ, List.getElem?_cons_zero] at hoi; obtain rfl := Option.some.inj hoi; clear hoi); refine ⟨rfl, ?_⟩; apply Exists.intro; refine ⟨?_, fun _ _ _ h => h, ?_⟩; (intro w hSw; (try dsimp only at hSw); go_simp; (try with_reducible rfl)); (try simp only [Act.put, List.setIfInBounds_toArray, List.set_cons_zero, List.set_cons_succ]); refine hTake 4 (by kernel_rfl) (by kernel_rfl) (by kernel_rfl) (by decide) (by assumption) ?_; (intro oi hoi; simp only [List.getElem?_toArray, List.getElem?_cons_succ, List.getElem?_cons_zero] at hoi; obtain rfl := Option.some.inj hoi; clear hoi); refine ⟨rfl, ?_⟩; apply Exists.intro; refine ⟨?_, fun _ _ _ h => h, ?_⟩; (intro w hSw; (try dsimp only at hSw); go_simp; (try with_reducible rfl)); (try simp only [Act.put, List.setIfInBounds_toArray, List.set_cons_zero, List.set_cons_succ])
          refine hOnly 5 (by kernel_rfl) (by decide) ?_; (intro oi hoi; simp only [List.getElem?_toArray, List.getElem?_cons_succ, List.getElem?_cons_zero] at hoi; obtain rfl := Option.some.inj hoi; clear hoi); intro K hK; go_simp
          go_at_call 27
          refine (HCL.out _).mono ?_
          rintro r w7 h7
          obtain ⟨A7, c7, rfl, m7, -, z7, r7, hb7⟩ := partsR_of HPQ.out.symm HPM.out h7
          clear h7
          have hEhb7 := Env.step hb7 (by assumption); (try (have hqhb7 := (by with_reducible first | exact Loc.below hb7 (Loc.new (Loc.nil _) _ _) | exact Loc.below hb7 (Loc.drew (Loc.new (Loc.nil _) _ _)) | exact Loc.below hb7 (by assumption : Loc _ [_])); (repeat rw [World.size_drew] at hqhb7); (repeat rw [World.size_alloc] at hqhb7); have hrhb7 := hqhb7; (repeat unfold Loc at hrhb7)))
          (refine hK.out _ _ (by (first | assumption | exact Env.step (by assumption) (by assumption) | exact Env.old (by assumption) _ | exact Env.drew hE | exact hE | exact Env.drew (by assumption) | exact Env.drew (Env.old (by assumption) _) | ((repeat first | refine Env.far0 ?_ (by assumption) _ | refine Env.far1 ?_ (by assumption) _ | refine Env.farA ?_ (by assumption) _); assumption))) (fun hHeld => ?_); clear hK K; (try simp only [Act.put, List.setIfInBounds_toArray, List.set_cons_zero, List.set_cons_succ]))
          refine hTake 6 (by kernel_rfl) (by kernel_rfl) (by kernel_rfl) (by decide) (by assumption) ?_; (intro oi hoi; simp only [List.getElem?_toArray, List.getElem?_cons_succ, List.getElem?_cons_zero] at hoi; obtain rfl := Option.some.inj hoi; clear hoi); refine ⟨rfl, ?_⟩; apply Exists.intro; refine ⟨?_, fun _ _ _ h => h, ?_⟩; (intro w hSw; (try dsimp only at hSw); go_simp; (try with_reducible rfl)); (try simp only [Act.put, List.setIfInBounds_toArray, List.set_cons_zero, List.set_cons_succ]); refine hTake 7 (by kernel_rfl) (by kernel_rfl) (by kernel_rfl) (by decide) (by assumption) ?_; (intro oi hoi; simp only [List.getElem?_toArray, List.getElem?_cons_succ, List.getElem?_cons_zero] at hoi; obtain rfl := Option.some.inj hoi; clear hoi); refine ⟨rfl, ?_⟩; apply Exists.intro; refine ⟨?_, fun _ _ _ h => h, ?_⟩; (intro w hSw; (try dsimp only at hSw); go_simp; (try with_reducible rfl)); (try simp only [Act.put, List.setIfInBounds_toArray, List.set_cons_zero, List.set_cons_succ]); refine hTake 8 (by kernel_rfl) (by kernel_rfl) (by kernel_rfl) (by decide) (by assumption) ?_; (intro oi hoi; simp only [List.getElem?_toArray, List.getElem?_cons_succ, List.getElem?_cons_zero] at hoi; obtain rfl := Option.some.inj hoi; clear hoi); refine ⟨rfl, ?_⟩; apply Exists.intro; refine ⟨?_, fun _ _ _ h => h, ?_⟩; (intro w hSw; (try dsimp only at hSw); go_simp; (try with_reducible rfl)); (try simp only [Act.put, List.setIfInBounds_toArray, List.set_cons_zero, List.set_cons_succ]); refine hTake 9 (by kernel_rfl) (by kernel_rfl) (by kernel_rfl) (by decide) (by assumption) ?_; (intro oi hoi; simp only [List.getElem?_toArray, List.getElem?_cons_succ, List.getElem?_cons_zero] at hoi; obtain rfl := Option.some.inj hoi; clear hoi); refine ⟨rfl, ?_⟩; apply Exists.intro; refine ⟨?_, fun _ _ _ h => h, ?_⟩; (intro w hSw; (try dsimp only at hSw); go_simp; (try with_reducible rfl)); (try simp only [Act.put, List.setIfInBounds_toArray, List.set_cons_zero, List.set_cons_succ]); refine hTake 10 (by kernel_rfl) (by kernel_rfl) (by kernel_rfl) (by decide) (by assumption) ?_; (intro oi hoi; simp only [List.getElem?_toArray, List.getElem?_cons_succ, List.getElem?_cons_zero] at hoi; obtain rfl := Option.some.inj hoi; clear hoi); refine ⟨rfl, ?_⟩; apply Exists.intro; refine ⟨?_, fun _ _ _ h => h, ?_⟩; (intro w hSw; (try dsimp only at hSw); go_simp; (try with_reducible rfl)); (try simp only [Act.put, List.setIfInBounds_toArray, List.set_cons_zero, List.set_cons_succ])
          refine wpAnyH_done (by kernel_rfl) ?_ _
          have hl7 := hl.drew.below hb7
          have hbb7 := below_then (below_drew hb) hb7
          have own7 := (own_drew own).below hb7
          obtain ⟨f0, f1⟩ := hRg _ hHeld
          clear hl hb own hRR hRg hE hHeld hb7
          have hF := hl7
          (repeat unfold Loc at hF)
          by_cases ha : a < -1099511627776 ∨ 1099511627776 < a
          · have hz := HPA.out
            rw [if_pos (.inl ha)] at hz
            obtain ⟨rfl, rfl⟩ : pl = [] ∧ er = 2 := by simpa using hz
            have d6 : (D2 != 0) = true := by
              rw [HD2.out]; unfold tchk; rw [if_neg (by omega), if_pos ha]; rfl
            clear ha hz
            go_wp2_with fail
            go_at_call 18
            refine (HTC2.out _).mono ?_
            rintro r w8 ⟨rfl, rfl⟩
            go_wp2_with fail
            go_roundw
            case rel => exact ⟨i + 1, by go_num, by omega, hl7, hbb7, own7⟩
            case measure => simp [intOf]; omega
          · have hz := HPA.out
            rw [if_neg (by rintro (h | h); exact ha h; exact h t2)] at hz
            have hd2 : D2 = 0 := by rw [HD2.out]; unfold tchk; rw [if_neg (by omega), if_neg (by omega)]
            subst hd2
            have hq8 := HQ.out
            have e0 : IntKind.i64.wrap (n : Int) = (n : Int) := IntWalk.i64_in _ (by omega)
            have h77 := H7.out
            by_cases h4 : 4000 < (n : Int)
            · rw [if_pos h4] at hz
              obtain ⟨rfl, rfl⟩ : pl = [] ∧ er = 4 := by simpa using hz
              have d7 : decide (4000 < (n : Int)) = true := by simp [h4]
              have d7' : decide (4000 < n) = true := by simp; omega
              clear hz ha
              go_wp2_with fail
              go_at_call 18
              refine (HTC2.out _).mono ?_
              rintro r w8 ⟨rfl, rfl⟩
              go_wp2_with fail
              go_roundw
              case rel => exact ⟨i + 1, by go_num, by omega, hl7, hbb7, own7⟩
              case measure => simp [intOf]; omega
            · rw [if_neg h4] at hz
              obtain ⟨rfl, rfl⟩ : pl = partsL a G n ∧ er = 0 := by simpa using hz
              have d7 : decide (4000 < (n : Int)) = false := by simp; omega
              have d7' : decide (4000 < n) = false := by simp; omega
              obtain rfl : pm = n := by rw [← HPM.out, partsL_len]
              clear hz ha
              go_wp2_with fail
              go_at_call 18
              refine (HTC2.out _).mono ?_
              rintro r w8 ⟨rfl, rfl⟩
              go_wp2_with fail
              clear hF
              go_loop [14, 13] (fun kv av => ∃ k : Nat, kv = .int .i64 k ∧ k ≤ pm ∧ av = .int .i64 (a + (k : Int) * G)) (fun kv _ => pm - (intOf kv).toNat)
              case atStart => exact ⟨0, rfl, Nat.zero_le _, by simp⟩
              case round =>
                obtain ⟨k, rfl, hk, rfl⟩ := hrel
                by_cases hklt : k < pm
                · obtain ⟨b7, off7, hA7, hbb8, p0, p1⟩ := span_cells r7 (partsL_get (a := a) (g := (G : Int)) hklt)
                  dsimp only at p0 p1
                  subst hA7
                  have hkG : (k : Int) * G + G ≤ pm * G := by
                    have : ((k : Int) + 1) * G ≤ pm * G := Int.mul_le_mul_of_nonneg_right (by omega) (by omega)
                    rw [Int.add_mul, Int.one_mul] at this
                    exact this
                  have hk0 : 0 ≤ (k : Int) * G := Int.mul_nonneg (by omega) (by omega)
                  have h5 := H5.out
                  obtain ⟨p, hp⟩ : ∃ p : Int, p = a + (k : Int) * G := ⟨_, rfl⟩
                  have hp2 : a + ((k + 1 : Nat) : Int) * G = p + G := by rw [hp]; simp only [Int.natCast_add, Int.natCast_one, Int.add_mul, Int.one_mul]; omega
                  have hpb : -1100585369600 ≤ p ∧ p ≤ 1101659111424 := by omega
                  rw [← hp] at p0 p1 ⊢
                  have d8 : decide ((k : Int) < (pm : Int)) = true := by simp; omega
                  have d8' : decide (k < pm) = true := by simp [hklt]
                  have k3 : (0 : Int) ≤ (k : Int) := by omega
                  have k4 : (k : Int) < (pm : Int) := by omega
                  have e2 : IntKind.i64.wrap ((k : Int) + 1) = (k : Int) + 1 := IntWalk.i64_in _ (by omega)
                  have e3 : IntKind.i64.wrap (p + G) = p + G := IntWalk.i64_in _ (by omega)
                  have HP2 := Lib.hid hp2
                  clear hkG hk0 h5 hp hp2 hklt h77 hq8
                  go_wp2_with fail
                  go_round
                  case rel => exact ⟨k + 1, by go_num, by omega, by rw [HP2.out]⟩
                  case measure => simp [intOf]; omega
                · obtain rfl : k = pm := by omega
                  have h5 := H5.out
                  have d8 : decide ((k : Int) < (k : Int)) = false := by simp
                  have d8' : decide (k < k) = false := by simp
                  rw [← h5]
                  have hF := hl7
                  (repeat unfold Loc at hF)
                  clear h5 hklt h77 hq8
                  go_wp2_with fail
                  go_roundw
                  case rel => exact ⟨i + 1, by go_num, by omega, hl7, hbb7, own7⟩
                  case measure => simp [intOf]; omega
        · obtain rfl : i = lt := by omega
          have d5 : decide ((i : Int) < (i : Int)) = false := by simp
          have d5' : decide (i < i) = false := by simp
          clear hilt
          go_wp2
          go_ret
          exact ⟨rfl, hb⟩
    · have d1 : (D != 0) = true := by simp [hD0]
      subst hC0
      clear hD0 hC hD
      go_enter Try.func6, Try.ntmps6
      go_wp2_with fail
      go_at_call 34
      refine (alive19 _).mono ?_
      rintro r w2 ⟨rfl, hb2⟩
      have hl2 := hl0.below hb2
      have hF := hl2
      (repeat unfold Loc at hF)
      go_wp2_with fail
      go_at_call 35
      refine (HSL.out _).mono ?_
      rintro r w3 ⟨rfl, hb3⟩
      go_wp2_with fail
      go_at_call 18
      refine (HTC.out _).mono ?_
      rintro r w4 ⟨rfl, rfl⟩
      go_wp2
      go_ret
      exact ⟨rfl, below_then (below_then hb0 hb2) hb3⟩
  · have d1 : (C != 0) = true := by simp [hC0]
    clear hC0 hC hD
    go_enter Try.func6, Try.ntmps6
    go_wp2_with fail
    go_at_call 34
    refine (alive19 _).mono ?_
    rintro r w2 ⟨rfl, hb2⟩
    have hl2 := hl0.below hb2
    have hF := hl2
    (repeat unfold Loc at hF)
    go_wp2_with fail
    go_at_call 35
    refine (HSL.out _).mono ?_
    rintro r w3 ⟨rfl, hb3⟩
    go_wp2
    go_ret
    exact ⟨rfl, below_then (below_then hb0 hb2) hb3⟩
end Go.Proofs.Ytbbdepeifdbbdaa
