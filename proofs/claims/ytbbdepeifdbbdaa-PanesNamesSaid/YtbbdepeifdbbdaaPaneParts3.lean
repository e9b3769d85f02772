/- The contract of the reference's Parts (chapter 19). Condition: numbers within their types. -/
import Derived.Test.YtbbdepeifdbbdaaPaneParts2
import Derived.Test.YtbbdepeifdbbdaaAppendL2
namespace Go.Proofs.Ytbbdepeifdbbdaa
open Go.RowKit

set_option maxHeartbeats 16000000 in
set_option maxRecDepth 100000 in
theorem rparts_any (k ws we a b : Int) (hwe : (Lit.int .i64 we).wf = true) (w : World) :
    Calls Try.prog 28 #[.agg #[.int .u8 k, .int .i64 ws, .int .i64 we], .agg #[.int .i64 a, .int .i64 b]] w fun r w' => ∃ v, r = .returned (.tuple #[v, .int .i64 (pparts k ws we a b).2]) ∧ Own senc 2 w' w.heap.size 38 v (pparts k ws we a b).1 ∧ Below w.heap.size w w' := by
  obtain ⟨i0, hi0, hz0, hz1, hz2⟩ := info_parts span_info
  have hs := fun W => asked_any k ws we hwe W
  obtain ⟨C, hC⟩ : ∃ C, C = slchk k ws we := ⟨_, rfl⟩
  rw [← hC] at hs
  have HSL := Lib.hid hs
  clear hs
  have hl2 : Loc ((w.alloc (.cells #[.int .u8 k, .int .i64 ws, .int .i64 we] 23)).alloc (.cells #[.int .i64 a, .int .i64 b] 38)) [(w.heap.size + 1, [.int .i64 a, .int .i64 b]), (w.heap.size, [.int .u8 k, .int .i64 ws, .int .i64 we])] := by
    have h := ((Loc.nil w).new [.int .u8 k, .int .i64 ws, .int .i64 we] 23).new [.int .i64 a, .int .i64 b] 38
    rw [World.size_alloc] at h
    exact h
  have hb2 : Below w.heap.size w ((w.alloc (.cells #[.int .u8 k, .int .i64 ws, .int .i64 we] 23)).alloc (.cells #[.int .i64 a, .int .i64 b] 38)) := (by repeat (first | with_reducible exact Below.refl _ _ | with_reducible assumption | (with_reducible exact Env.below (by assumption)) | (with_reducible refine below_new ?_ _) | (with_reducible refine below_drew ?_) | (with_reducible refine below_drewN ?_ _) | (with_reducible refine below_put ?_ ?_ _; rotate_left 1; (dsimp only; omega)) | (with_reducible refine below_then ?_ (by assumption))))
  by_cases hC0 : C = 0
  · obtain ⟨hw, rfl⟩ := slchk_zero.1 (hC.symm.trans hC0)
    obtain ⟨⟨s1, s2⟩, hw2⟩ := hw
    have hw3 : 1 ≤ we ∧ we ≤ ws ∧ ws ≤ 16 * we := by omega
    have htc := fun W => rcheck_any a 1 W
    by_cases ht : a < -1099511627776 ∨ 1099511627776 < a
    · have hres : pparts 2 ws we a b = ([], 2) := by unfold pparts; rw [if_neg (by rw [← hC]; simp [hC0]), if_pos (.inl ht)]
      rw [hres]
      rw [show tchk a 1 = 16 by unfold tchk; rw [if_neg (by omega), if_pos ht]] at htc
      have HTC := Lib.hid htc
      subst hC0
      clear htc hres hC ht hw2 hw3 s1 s2
      go_enter Try.func28, Try.ntmps28
      go_wp2_with fail
      go_at_call 35
      refine (HSL.out _).mono ?_
      rintro r w3 ⟨rfl, hb3⟩
      have hl3 := hl2.below hb3
      have hF := hl3
      (repeat unfold Loc at hF)
      go_wp2_with fail
      go_at_call 18
      refine (HTC.out _).mono ?_
      rintro r w4 ⟨rfl, rfl⟩
      go_wp2
      go_ret2
      exact ⟨.slice none 0 0, rfl, Own.nil _ _ _, below_then hb2 hb3⟩
    · rw [show tchk a 1 = 0 by unfold tchk; rw [if_neg (by omega), if_neg ht]] at htc
      have HTC := Lib.hid htc
      have ha1 : -1099511627776 ≤ a := by omega
      have ha2 : a ≤ 1099511627776 := by omega
      have hwe0 : we ≠ 0 := by omega
      have hwe1 : (we == 0) = false := by simp; omega
      have htm : (a.tmod we = 0) ↔ (a % we = 0) := by rw [← Int.dvd_iff_tmod_eq_zero, Int.dvd_iff_emod_eq_zero]
      have esum : IntKind.i64.wrap (a + ws) = a + ws := IntWalk.i64_in _ (by omega)
      by_cases hin1 : a % we = 0
      · have hm0 : a.tmod we = 0 := htm.2 hin1
        by_cases hin2 : b = a + ws
        · have hbw : b = a + ws := hin2
          obtain ⟨G, n, m, g1, g2, g3, g4, g5, g6, g7, g8⟩ := gcd_facts (show 0 < ws by omega) (show 0 < we by omega)
          have hdv := fun W => rdivisor_any ws we W (by omega) (by omega) s2 (by omega)
          rw [g1] at hdv
          have HDV := Lib.hid hdv
          have hres : pparts 2 ws we a b = if 4000 < (n : Int) then ([], 4) else (partsL a (G : Int) n, 0) := by
            unfold pparts
            rw [if_neg (by rw [← hC]; simp [hC0]), if_neg (by rintro (h | h | h); exact ht h; exact h hin1; exact h hin2), g1, g7]
            simp
          have hGle : (n : Int) * G ≤ 1073741824 := by rw [← g5]; exact s2
          have hq2 : ws.tdiv (n : Int) = (G : Int) := by
            rw [g5, Int.mul_comm]
            exact Int.mul_tdiv_cancel _ (by omega)
          have hG0 : ((G : Nat) : Int) ≠ 0 := by omega
          have hG1 : (((G : Nat) : Int) == 0) = false := by simp; omega
          have hGn : G ≠ 0 := by omega
          have hnn : n ≠ 0 := by omega
          have hN1 : (((n : Nat) : Int) == 0) = false := by simp; omega
          have hN0 : ((n : Nat) : Int) ≠ 0 := by omega
          have hGG : (G : Int) ≤ 1073741824 := by
            have : (1 : Int) * G ≤ n * G := Int.mul_le_mul_of_nonneg_right (by omega) (by omega)
            omega
          have hn0 : (n : Int) ≤ 1073741824 := by
            have : (n : Int) * 1 ≤ n * G := Int.mul_le_mul_of_nonneg_left (by omega) (by omega)
            omega
          have e0 : IntKind.i64.wrap (n : Int) = (n : Int) := IntWalk.i64_in _ (by omega)
          have eg : IntKind.i64.wrap (G : Int) = (G : Int) := IntWalk.i64_in _ (by omega)
          have HRES := Lib.hid hres; have HQ := Lib.hid g8; have HQ2 := Lib.hid hq2; have HG0 := Lib.hid hG0; have HG1 := Lib.hid hG1; have HN1 := Lib.hid hN1; have HN0 := Lib.hid hN0; have E0 := Lib.hid e0; have EG := Lib.hid eg
          have d1 : (b != a + ws) = false := by simp [hin2]
          subst hC0
          clear htc hdv hres hC ht hw2 hw3 s1 s2 htm hin1 hin2 g1 g5 g6 g7 g8 hq2 hbw hG0 hG1 hN1 hN0 e0 eg
          go_enter Try.func28, Try.ntmps28
          go_wp2_with fail
          go_at_call 35
          refine (HSL.out _).mono ?_
          rintro r w3 ⟨rfl, hb3⟩
          have hl3 := hl2.below hb3
          have hb03 := below_then hb2 hb3
          have hF := hl3
          (repeat unfold Loc at hF)
          go_wp2_with fail
          go_at_call 18
          refine (HTC.out _).mono ?_
          rintro r w4 ⟨rfl, rfl⟩
          go_wp2_with fail
          have hq := HQ.out; have hG0 := HG0.out; have hG1 := HG1.out; have e0 := E0.out
          obtain ⟨lE, hE, hR⟩ := Env.abs (w0 := w3) (Below.refl _ _) hl3
          have hRg : ∀ X, Env w3 lE X → X.cell? ⟨w.heap.size, 1, none⟩ = some (.int .i64 ws) ∧ X.cell? ⟨w.heap.size, 2, none⟩ = some (.int .i64 we) := fun X hX => by
            have hx := hl3.below (hX.1 : Below w3.heap.size w3 X)
            have hx2 := hx
            (repeat unfold Loc at hx2)
            exact ⟨hx2.2.2.2.2.1 1, hx2.2.2.2.2.1 2⟩
          (repeat unfold Loc at hR)
          clear hl2 hb2 hb3
          refine wp_region_held_drew (S := Env w3 lE) (by kernel_rfl) (by (first | assumption | exact Env.step (by assumption) (by assumption) | exact Env.old (by assumption) _ | exact Env.drew hE | exact hE | exact Env.drew (by assumption) | exact Env.drew (Env.old (by assumption) _) | ((repeat first | refine Env.far0 ?_ (by assumption) _ | refine Env.far1 ?_ (by assumption) _ | refine Env.farA ?_ (by assumption) _); assumption))) (fun hHeld => ?_)
          refine hTake 0 (by kernel_rfl) (by kernel_rfl) (by kernel_rfl) (by decide) (by assumption) ?_; (intro oi hoi; simp only [List.getElem?_toArray, List.getElem?_cons_zero] at hoi; obtain rfl := Option.some.inj hoi; clear hoi); refine ⟨rfl, ?_⟩; apply Exists.intro; refine ⟨?_, fun _ _ _ h => h, ?_⟩; (intro w hSw; (try dsimp only at hSw); go_simp; (try with_reducible rfl)); (try simp only [Act.put, List.setIfInBounds_toArray, List.set_cons_zero, List.set_cons_succ]); refine hTake 1 (by kernel_rfl) (by kernel_rfl) (by kernel_rfl) (by decide) (by assumption) ?_; (intro oi hoi; simp only [List.getElem?_toArray, List.getElem?_cons_succ, List.getElem?_cons_zero] at hoi; obtain rfl := Option.some.inj hoi; clear hoi); refine ⟨rfl, ?_⟩; apply Exists.intro; refine ⟨?_, fun _ _ _ h => h, ?_⟩; (intro w hSw; (try dsimp only at hSw); go_simp; (try with_reducible rfl)); (try simp only [Act.put, List.setIfInBounds_toArray, List.set_cons_zero, List.set_cons_succ]); refine hTake 2 (by kernel_rfl) (by kernel_rfl) (by kernel_rfl) (by decide) (by assumption) ?_; (intro oi hoi; simp only [List.getElem?_toArray, List.getElem?_cons_succ, List.getElem?_cons_zero] at hoi; obtain rfl := Option.some.inj hoi; clear hoi); refine ⟨rfl, ?_⟩; apply Exists.intro; refine ⟨?_, fun _ _ _ h => h, ?_⟩; (intro w hSw; (try dsimp only at hSw); go_simp; (try with_reducible rfl)); (try simp only [Act.put, List.setIfInBounds_toArray, List.set_cons_zero, List.set_cons_succ]); refine hTake 3 (by kernel_rfl) (by kernel_rfl) (by kernel_rfl) (by decide) (by assumption) ?_; (intro oi hoi; simp only [List.getElem?_toArray, List.getElem?_cons_succ, List.getElem?_cons_zero] at hoi; obtain rfl := Option.some.inj hoi; clear hoi); refine ⟨rfl, ?_⟩; apply Exists.intro; refine ⟨?_, fun _ _ _ h => h, ?_⟩; (intro w hSw; (try dsimp only at hSw); go_simp; (try with_reducible rfl)); (try simp only [Act.put, List.setIfInBounds_toArray, List.set_cons_zero, List.set_cons_succ]); refine hTake 4 (by kernel_rfl) (by kernel_rfl) (by kernel_rfl) (by decide) (by assumption) ?_; (intro oi hoi; simp only [List.getElem?_toArray, List.getElem?_cons_succ, List.getElem?_cons_zero] at hoi; obtain rfl := Option.some.inj hoi; clear hoi); refine ⟨rfl, ?_⟩; apply Exists.intro; refine ⟨?_, fun _ _ _ h => h, ?_⟩; (intro w hSw; (try dsimp only at hSw); go_simp; (try with_reducible rfl)); (try simp only [Act.put, List.setIfInBounds_toArray, List.set_cons_zero, List.set_cons_succ]); refine hTake 5 (by kernel_rfl) (by kernel_rfl) (by kernel_rfl) (by decide) (by assumption) ?_; (intro oi hoi; simp only [List.getElem?_toArray, List.getElem?_cons_succ, List.getElem?_cons_zero] at hoi; obtain rfl := Option.some.inj hoi; clear hoi); refine ⟨rfl, ?_⟩; apply Exists.intro; refine ⟨?_, fun _ _ _ h => h, ?_⟩; (intro w hSw; (try dsimp only at hSw); go_simp; (try with_reducible rfl)); (try simp only [Act.put, List.setIfInBounds_toArray, List.set_cons_zero, List.set_cons_succ])
          refine hOnly 6 (by kernel_rfl) (by decide) ?_; (intro oi hoi; simp only [List.getElem?_toArray, List.getElem?_cons_succ, List.getElem?_cons_zero] at hoi; obtain rfl := Option.some.inj hoi; clear hoi); intro K hK; go_simp
          go_at_call 38
          refine (HDV.out _).mono ?_
          rintro r w6 ⟨rfl, hb6⟩
          have hEhb6 := Env.step hb6 (by assumption); (try (have hqhb6 := (by with_reducible first | exact Loc.below hb6 (Loc.new (Loc.nil _) _ _) | exact Loc.below hb6 (Loc.drew (Loc.new (Loc.nil _) _ _)) | exact Loc.below hb6 (by assumption : Loc _ [_])); (repeat rw [World.size_drew] at hqhb6); (repeat rw [World.size_alloc] at hqhb6); have hrhb6 := hqhb6; (repeat unfold Loc at hrhb6)))
          (refine hK.out _ _ (by (first | assumption | exact Env.step (by assumption) (by assumption) | exact Env.old (by assumption) _ | exact Env.drew hE | exact hE | exact Env.drew (by assumption) | exact Env.drew (Env.old (by assumption) _) | ((repeat first | refine Env.far0 ?_ (by assumption) _ | refine Env.far1 ?_ (by assumption) _ | refine Env.farA ?_ (by assumption) _); assumption))) (fun hHeld => ?_); clear hK K; (try simp only [Act.put, List.setIfInBounds_toArray, List.set_cons_zero, List.set_cons_succ]))
          refine hTake 7 (by kernel_rfl) (by kernel_rfl) (by kernel_rfl) (by decide) (by assumption) ?_; (intro oi hoi; simp only [List.getElem?_toArray, List.getElem?_cons_succ, List.getElem?_cons_zero] at hoi; obtain rfl := Option.some.inj hoi; clear hoi); refine ⟨rfl, ?_⟩; apply Exists.intro; refine ⟨?_, fun _ _ _ h => h, ?_⟩; (intro w hSw; (try dsimp only at hSw); go_simp; (try with_reducible rfl)); (try simp only [Act.put, List.setIfInBounds_toArray, List.set_cons_zero, List.set_cons_succ]); refine hTake 8 (by kernel_rfl) (by kernel_rfl) (by kernel_rfl) (by decide) (by assumption) ?_; (intro oi hoi; simp only [List.getElem?_toArray, List.getElem?_cons_succ, List.getElem?_cons_zero] at hoi; obtain rfl := Option.some.inj hoi; clear hoi); refine ⟨rfl, ?_⟩; apply Exists.intro; refine ⟨?_, fun _ _ _ h => h, ?_⟩; (intro w hSw; (try dsimp only at hSw); go_simp; (try with_reducible rfl)); (try simp only [Act.put, List.setIfInBounds_toArray, List.set_cons_zero, List.set_cons_succ])
          refine wpAnyH_done (by kernel_rfl) ?_ _
          have hl6 := hl3.drew.below hb6
          have hb06 := below_then (below_drew hb03) hb6
          clear hRg hF hq hG0 hG1 e0
          have hF := hl6
          (repeat unfold Loc at hF)
          by_cases h4 : 4000 < (n : Int)
          · have hres := HRES.out
            rw [if_pos h4] at hres
            have HR2 := Lib.hid hres
            have d4 : decide (4000 < (n : Int)) = true := by simp [h4]
            have d4' : decide (4000 < n) = true := by simp; omega
            clear hres
            go_wp2
            go_ret2
            exact ⟨.slice none 0 0, by rw [HR2.out]; rfl, by rw [HR2.out]; exact Own.nil _ _ _, hb06⟩
          · have hres := HRES.out
            rw [if_neg h4] at hres
            have HR2 := Lib.hid hres
            have d4 : decide (4000 < (n : Int)) = false := by simp; omega
            have d4' : decide (4000 < n) = false := by simp; omega
            clear hres
            go_wp2_with fail
            go_loopw [8, 9] (fun ov i wr => ∃ (k : Nat), i = .int .i64 k ∧ k ≤ n ∧ Own senc 2 wr (w.heap.size + 2) 38 ov (partsL a (G : Int) k) ∧ Loc wr [(w.heap.size + 1, [.int .i64 a, .int .i64 b]), (w.heap.size, [.int .u8 2, .int .i64 ws, .int .i64 we])] ∧ Below w.heap.size w wr) (fun _ i _ => n - (intOf i).toNat)
            case atStart => exact ⟨0, rfl, Nat.zero_le _, Own.nil _ _ _, hl6, hb06⟩
            case round =>
              clear hF
              obtain ⟨k, rfl, hk, own, hl, hb⟩ := hrel
              have hF := hl
              (repeat unfold Loc at hF)
              have hPL := partsL_succ a (G : Int) k
              have hlen := partsL_len a (G : Int) k
              by_cases hlt : k < n
              · have hkG : (k : Int) * G + G ≤ n * G := by
                  have : ((k : Int) + 1) * G ≤ n * G := Int.mul_le_mul_of_nonneg_right (by omega) (by omega)
                  rw [Int.add_mul, Int.one_mul] at this
                  exact this
                have hk0 : 0 ≤ (k : Int) * G := Int.mul_nonneg (by omega) (by omega)
                obtain ⟨p, hp⟩ : ∃ p : Int, p = (k : Int) * G := ⟨_, rfl⟩
                have hp2 : ((k : Int) + 1) * G = p + G := by rw [hp, Int.add_mul, Int.one_mul]
                rw [← hp] at hPL hkG hk0
                have d5 : decide ((k : Int) < (n : Int)) = true := by simp; omega
                have d5' : decide (k < n) = true := by simp [hlt]
                have e1 : IntKind.i64.wrap ((k : Int) + 1) = (k : Int) + 1 := IntWalk.i64_in _ (by omega)
                have e2 : IntKind.i64.wrap ((k : Int) * G) = p := by rw [← hp]; exact IntWalk.i64_in _ (by omega)
                have e3 : IntKind.i64.wrap (((k : Int) + 1) * G) = p + G := by rw [hp2]; exact IntWalk.i64_in _ (by omega)
                have e4 : IntKind.i64.wrap (a + p) = a + p := IntWalk.i64_in _ (by omega)
                have e5 : IntKind.i64.wrap (a + (p + G)) = a + p + G := by rw [← Int.add_assoc]; exact IntWalk.i64_in _ (by omega)
                have HPL := Lib.hid hPL; have HLK := Lib.hid hlen
                have hq2 := HQ2.out; have hN0 := HN0.out; have hN1 := HN1.out; have eg := EG.out
                obtain ⟨lE, hlE⟩ : ∃ lE, lE = [(w.heap.size + 1, [Value.int .i64 a, .int .i64 b]), (w.heap.size, [.int .u8 2, .int .i64 ws, .int .i64 we])] := ⟨_, rfl⟩
                have hE : Env w lE wr := ⟨hb, by rw [hlE]; exact hl⟩
                have hRg : ∀ X, Env w lE X → X.cell? ⟨w.heap.size, 1, none⟩ = some (.int .i64 ws) ∧ X.cell? ⟨w.heap.size + 1, 0, none⟩ = some (.int .i64 a) := fun X hX => by
                  have hx2 : Loc X _ := hlE ▸ hX.2
                  (repeat unfold Loc at hx2)
                  exact ⟨hx2.2.2.2.2.1 1, hx2.2.1 0⟩
                have HLE := Lib.hid hlE
                clear hlE
                clear hkG hk0 hp hp2 hPL hlen
                go_wp2_with fail
                refine wp_region_held_drew (S := Env w lE) (by kernel_rfl) (by (first | assumption | exact Env.step (by assumption) (by assumption) | exact Env.old (by assumption) _ | exact Env.drew hE | exact hE | exact Env.drew (by assumption) | exact Env.drew (Env.old (by assumption) _) | ((repeat first | refine Env.far0 ?_ (by assumption) _ | refine Env.far1 ?_ (by assumption) _ | refine Env.farA ?_ (by assumption) _); assumption))) (fun hHeld => ?_)
                refine hTake 0 (by kernel_rfl) (by kernel_rfl) (by kernel_rfl) (by decide) (by assumption) ?_; (intro oi hoi; simp only [List.getElem?_toArray, List.getElem?_cons_zero] at hoi; obtain rfl := Option.some.inj hoi; clear hoi); refine ⟨rfl, ?_⟩; apply Exists.intro; refine ⟨?_, fun _ _ _ h => h, ?_⟩; (intro w hSw; (try dsimp only at hSw); go_simp; (try with_reducible rfl)); (try simp only [Act.put, List.setIfInBounds_toArray, List.set_cons_zero, List.set_cons_succ]); refine hTake 1 (by kernel_rfl) (by kernel_rfl) (by kernel_rfl) (by decide) (by assumption) ?_; (intro oi hoi; simp only [List.getElem?_toArray, List.getElem?_cons_succ, List.getElem?_cons_zero] at hoi; obtain rfl := Option.some.inj hoi; clear hoi); refine ⟨rfl, ?_⟩; apply Exists.intro; refine ⟨?_, fun _ _ _ h => h, ?_⟩; (intro w hSw; (try dsimp only at hSw); go_simp; (try with_reducible rfl)); (try simp only [Act.put, List.setIfInBounds_toArray, List.set_cons_zero, List.set_cons_succ]); refine hTake 2 (by kernel_rfl) (by kernel_rfl) (by kernel_rfl) (by decide) (by assumption) ?_; (intro oi hoi; simp only [List.getElem?_toArray, List.getElem?_cons_succ, List.getElem?_cons_zero] at hoi; obtain rfl := Option.some.inj hoi; clear hoi); refine ⟨rfl, ?_⟩; apply Exists.intro; refine ⟨?_, fun _ _ _ h => h, ?_⟩; (intro w hSw; (try dsimp only at hSw); go_simp; (try with_reducible rfl)); (try simp only [Act.put, List.setIfInBounds_toArray, List.set_cons_zero, List.set_cons_succ]); refine hTake 3 (by kernel_rfl) (by kernel_rfl) (by kernel_rfl) (by decide) (by assumption) ?_; (intro oi hoi; simp only [List.getElem?_toArray, List.getElem?_cons_succ, List.getElem?_cons_zero] at hoi; obtain rfl := Option.some.inj hoi; clear hoi); refine ⟨rfl, ?_⟩; apply Exists.intro; refine ⟨?_, fun _ _ _ h => h, ?_⟩; (intro w hSw; (try dsimp only at hSw); go_simp; (try with_reducible rfl)); (try simp only [Act.put, List.setIfInBounds_toArray, List.set_cons_zero, List.set_cons_succ]); refine hTake 4 (by kernel_rfl) (by kernel_rfl) (by kernel_rfl) (by decide) (by assumption) ?_; (intro oi hoi; simp only [List.getElem?_toArray, List.getElem?_cons_succ, List.getElem?_cons_zero] at hoi; obtain rfl := Option.some.inj hoi; clear hoi); refine ⟨rfl, ?_⟩; apply Exists.intro; refine ⟨?_, fun _ _ _ h => h, ?_⟩; (intro w hSw; (try dsimp only at hSw); go_simp; (try with_reducible rfl)); (try simp only [Act.put, List.setIfInBounds_toArray, List.set_cons_zero, List.set_cons_succ]); refine hTake 5 (by kernel_rfl) (by kernel_rfl) (by kernel_rfl) (by decide) (by assumption) ?_; (intro oi hoi; simp only [List.getElem?_toArray, List.getElem?_cons_succ, List.getElem?_cons_zero] at hoi; obtain rfl := Option.some.inj hoi; clear hoi); refine ⟨rfl, ?_⟩; apply Exists.intro; refine ⟨?_, fun _ _ _ h => h, ?_⟩; (intro w hSw; (try dsimp only at hSw); go_simp; (try with_reducible rfl)); (try simp only [Act.put, List.setIfInBounds_toArray, List.set_cons_zero, List.set_cons_succ]); refine hTake 6 (by kernel_rfl) (by kernel_rfl) (by kernel_rfl) (by decide) (by assumption) ?_; (intro oi hoi; simp only [List.getElem?_toArray, List.getElem?_cons_succ, List.getElem?_cons_zero] at hoi; obtain rfl := Option.some.inj hoi; clear hoi); refine ⟨rfl, ?_⟩; apply Exists.intro; refine ⟨?_, fun _ _ _ h => h, ?_⟩; (intro w hSw; (try dsimp only at hSw); go_simp; (try with_reducible rfl)); (try simp only [Act.put, List.setIfInBounds_toArray, List.set_cons_zero, List.set_cons_succ]); refine hTake 7 (by kernel_rfl) (by kernel_rfl) (by kernel_rfl) (by decide) (by assumption) ?_; (intro oi hoi; simp only [List.getElem?_toArray, List.getElem?_cons_succ, List.getElem?_cons_zero] at hoi; obtain rfl := Option.some.inj hoi; clear hoi); refine ⟨rfl, ?_⟩; apply Exists.intro; refine ⟨?_, fun _ _ _ h => h, ?_⟩; (intro w hSw; (try dsimp only at hSw); go_simp; (try with_reducible rfl)); (try simp only [Act.put, List.setIfInBounds_toArray, List.set_cons_zero, List.set_cons_succ]); refine hTake 8 (by kernel_rfl) (by kernel_rfl) (by kernel_rfl) (by decide) (by assumption) ?_; (intro oi hoi; simp only [List.getElem?_toArray, List.getElem?_cons_succ, List.getElem?_cons_zero] at hoi; obtain rfl := Option.some.inj hoi; clear hoi); refine ⟨rfl, ?_⟩; apply Exists.intro; refine ⟨?_, fun _ _ _ h => h, ?_⟩; (intro w hSw; (try dsimp only at hSw); go_simp; (try with_reducible rfl)); (try simp only [Act.put, List.setIfInBounds_toArray, List.set_cons_zero, List.set_cons_succ]); refine hTake 9 (by kernel_rfl) (by kernel_rfl) (by kernel_rfl) (by decide) (by assumption) ?_; (intro oi hoi; simp only [List.getElem?_toArray, List.getElem?_cons_succ, List.getElem?_cons_zero] at hoi; obtain rfl := Option.some.inj hoi; clear hoi); refine ⟨rfl, ?_⟩; apply Exists.intro; refine ⟨?_, fun _ _ _ h => h, ?_⟩; (intro w hSw; (try dsimp only at hSw); go_simp; (try with_reducible rfl)); (try simp only [Act.put, List.setIfInBounds_toArray, List.set_cons_zero, List.set_cons_succ]); refine hTake 10 (by kernel_rfl) (by kernel_rfl) (by kernel_rfl) (by decide) (by assumption) ?_; (intro oi hoi; simp only [List.getElem?_toArray, List.getElem?_cons_succ, List.getElem?_cons_zero] at hoi; obtain rfl := Option.some.inj hoi; clear hoi); refine ⟨rfl, ?_⟩; apply Exists.intro; refine ⟨?_, fun _ _ _ h => h, ?_⟩; (intro w hSw; (try dsimp only at hSw); go_simp; (try with_reducible rfl)); (try simp only [Act.put, List.setIfInBounds_toArray, List.set_cons_zero, List.set_cons_succ]); refine hTake 11 (by kernel_rfl) (by kernel_rfl) (by kernel_rfl) (by decide) (by assumption) ?_; (intro oi hoi; simp only [List.getElem?_toArray, List.getElem?_cons_succ, List.getElem?_cons_zero] at hoi; obtain rfl := Option.some.inj hoi; clear hoi); refine ⟨rfl, ?_⟩; apply Exists.intro; refine ⟨?_, fun _ _ _ h => h, ?_⟩; (intro w hSw; (try dsimp only at hSw); go_simp; (try with_reducible rfl)); (try simp only [Act.put, List.setIfInBounds_toArray, List.set_cons_zero, List.set_cons_succ]); refine hTake 12 (by kernel_rfl) (by kernel_rfl) (by kernel_rfl) (by decide) (by assumption) ?_; (intro oi hoi; simp only [List.getElem?_toArray, List.getElem?_cons_succ, List.getElem?_cons_zero] at hoi; obtain rfl := Option.some.inj hoi; clear hoi); refine ⟨rfl, ?_⟩; apply Exists.intro; refine ⟨?_, fun _ _ _ h => h, ?_⟩; (intro w hSw; (try dsimp only at hSw); go_simp; (try with_reducible rfl)); (try simp only [Act.put, List.setIfInBounds_toArray, List.set_cons_zero, List.set_cons_succ]); refine hTake 13 (by kernel_rfl) (by kernel_rfl) (by kernel_rfl) (by decide) (by assumption) ?_; (intro oi hoi; simp only [List.getElem?_toArray, List.getElem?_cons_succ, List.getElem?_cons_zero] at hoi; obtain rfl := Option.some.inj hoi; clear hoi); refine ⟨rfl, ?_⟩; apply Exists.intro; refine ⟨?_, fun _ _ _ h => h, ?_⟩; (intro w hSw; (try dsimp only at hSw); go_simp; (try with_reducible rfl)); (try simp only [Act.put, List.setIfInBounds_toArray, List.set_cons_zero, List.set_cons_succ]); refine hTake 14 (by kernel_rfl) (by kernel_rfl) (by kernel_rfl) (by decide) (by assumption) ?_; (intro oi hoi; simp only [List.getElem?_toArray, List.getElem?_cons_succ, List.getElem?_cons_zero] at hoi; obtain rfl := Option.some.inj hoi; clear hoi); refine ⟨rfl, ?_⟩; apply Exists.intro; refine ⟨?_, fun _ _ _ h => h, ?_⟩; (intro w hSw; (try dsimp only at hSw); go_simp; (try with_reducible rfl)); (try simp only [Act.put, List.setIfInBounds_toArray, List.set_cons_zero, List.set_cons_succ]); refine hTake 15 (by kernel_rfl) (by kernel_rfl) (by kernel_rfl) (by decide) (by assumption) ?_; (intro oi hoi; simp only [List.getElem?_toArray, List.getElem?_cons_succ, List.getElem?_cons_zero] at hoi; obtain rfl := Option.some.inj hoi; clear hoi); refine ⟨rfl, ?_⟩; apply Exists.intro; refine ⟨?_, fun _ _ _ h => h, ?_⟩; (intro w hSw; (try dsimp only at hSw); go_simp; (try with_reducible rfl)); (try simp only [Act.put, List.setIfInBounds_toArray, List.set_cons_zero, List.set_cons_succ]); refine hTake 16 (by kernel_rfl) (by kernel_rfl) (by kernel_rfl) (by decide) (by assumption) ?_; (intro oi hoi; simp only [List.getElem?_toArray, List.getElem?_cons_succ, List.getElem?_cons_zero] at hoi; obtain rfl := Option.some.inj hoi; clear hoi); refine ⟨rfl, ?_⟩; apply Exists.intro; refine ⟨?_, fun _ _ _ h => h, ?_⟩; (intro w hSw; (try dsimp only at hSw); go_simp; (try with_reducible rfl)); (try simp only [Act.put, List.setIfInBounds_toArray, List.set_cons_zero, List.set_cons_succ]); refine hTake 17 (by kernel_rfl) (by kernel_rfl) (by kernel_rfl) (by decide) (by assumption) ?_; (intro oi hoi; simp only [List.getElem?_toArray, List.getElem?_cons_succ, List.getElem?_cons_zero] at hoi; obtain rfl := Option.some.inj hoi; clear hoi); refine ⟨rfl, ?_⟩; apply Exists.intro; refine ⟨?_, fun _ _ _ h => h, ?_⟩; (intro w hSw; (try dsimp only at hSw); go_simp; (try with_reducible rfl)); (try simp only [Act.put, List.setIfInBounds_toArray, List.set_cons_zero, List.set_cons_succ]); refine hTake 18 (by kernel_rfl) (by kernel_rfl) (by kernel_rfl) (by decide) (by assumption) ?_; (intro oi hoi; simp only [List.getElem?_toArray, List.getElem?_cons_succ, List.getElem?_cons_zero] at hoi; obtain rfl := Option.some.inj hoi; clear hoi); refine ⟨rfl, ?_⟩; apply Exists.intro; refine ⟨?_, fun _ _ _ h => h, ?_⟩; (intro w hSw; (try dsimp only at hSw); go_simp; (try with_reducible rfl)); (try simp only [Act.put, List.setIfInBounds_toArray, List.set_cons_zero, List.set_cons_succ]); refine hTake 19 (by kernel_rfl) (by kernel_rfl) (by kernel_rfl) (by decide) (by assumption) ?_; (intro oi hoi; simp only [List.getElem?_toArray, List.getElem?_cons_succ, List.getElem?_cons_zero] at hoi; obtain rfl := Option.some.inj hoi; clear hoi); refine ⟨rfl, ?_⟩; apply Exists.intro; refine ⟨?_, fun _ _ _ h => h, ?_⟩; (intro w hSw; (try dsimp only at hSw); go_simp; (try with_reducible rfl)); (try simp only [Act.put, List.setIfInBounds_toArray, List.set_cons_zero, List.set_cons_succ]); refine hTake 20 (by kernel_rfl) (by kernel_rfl) (by kernel_rfl) (by decide) (by assumption) ?_; (intro oi hoi; simp only [List.getElem?_toArray, List.getElem?_cons_succ, List.getElem?_cons_zero] at hoi; obtain rfl := Option.some.inj hoi; clear hoi); refine ⟨rfl, ?_⟩; apply Exists.intro; refine ⟨?_, fun _ _ _ h => h, ?_⟩; (intro w hSw; (try dsimp only at hSw); go_simp; (try with_reducible rfl)); (try simp only [Act.put, List.setIfInBounds_toArray, List.set_cons_zero, List.set_cons_succ])
                refine hOnly 21 (by kernel_rfl) (by decide) ?_; (intro oi hoi; simp only [List.getElem?_toArray, List.getElem?_cons_succ, List.getElem?_cons_zero] at hoi; obtain rfl := Option.some.inj hoi; clear hoi); intro K hK; go_simp
                (refine hK.out _ _ (by (first | assumption | exact Env.step (by assumption) (by assumption) | exact Env.old (by assumption) _ | exact Env.drew hE | exact hE | exact Env.drew (by assumption) | exact Env.drew (Env.old (by assumption) _) | ((repeat first | refine Env.far0 ?_ (by assumption) _ | refine Env.far1 ?_ (by assumption) _ | refine Env.farA ?_ (by assumption) _); assumption))) (fun hHeld => ?_); clear hK K; (try simp only [Act.put, List.setIfInBounds_toArray, List.set_cons_zero, List.set_cons_succ]))
                have hsz := hl.1
                refine hOnly 22 (by kernel_rfl) (by decide) ?_
                (intro oi hoi; simp only [List.getElem?_toArray, List.getElem?_cons_succ, List.getElem?_cons_zero] at hoi; obtain rfl := Option.some.inj hoi; clear hoi); intro K hK
                refine step_append_l2 rfl (.tmp 52) (.tmp 73) 57 rfl (w.heap.size + 2) 38 i0 (.agg #[.int .i64 0, .int .i64 0]) 2 16 Try.underlying57 hi0 hz0 hz1 hz2 rfl (by decide) senc senc_len _ (partsL a (G : Int) k) [(a + p, a + p + G)] rfl (own_drew (own.alloc (.cells #[.int .i64 (a + p), .int .i64 (a + p + G)] 38))) ⟨wr.heap.size, 0, none⟩ 1 1 rfl rfl (sp_newP wr (a + p) (a + p + G) 38 wr.heap.size rfl) (senc_oneP [(a + p, a + p + G)]) (by rw [HLK.out]; unfold maxLen; omega) (by rw [HLK.out]; omega) (by rw [World.size_drew, World.size_alloc]; omega) ?_
                intro v' w7 own7 hgr7 hbel7 hfs7
                rw [← HPL.out] at own7
                have hl7 := Loc.belowB hbel7 (by intro q hq; simp at hq; rcases hq with rfl | rfl <;> (dsimp only; omega)) ((hl.old (.cells #[.int .i64 (a + p), .int .i64 (a + p + G)] 38)).drew)
                have hb7 : Below w.heap.size w w7 := (hb.alloc hb.size _).drew.trans (hbel7.mono (by omega))
                have hE7 : Env w lE w7 := ⟨hb7, by rw [HLE.out]; exact hl7⟩
                refine hK.out _ _ hE7 (fun hHeld7 => ?_)
                clear hK K
                (try simp only [Act.put, List.setIfInBounds_toArray, List.set_cons_zero, List.set_cons_succ])
                refine hTake 23 (by kernel_rfl) (by kernel_rfl) (by kernel_rfl) (by decide) (by assumption) ?_; (intro oi hoi; simp only [List.getElem?_toArray, List.getElem?_cons_succ, List.getElem?_cons_zero] at hoi; obtain rfl := Option.some.inj hoi; clear hoi); refine ⟨rfl, ?_⟩; apply Exists.intro; refine ⟨?_, fun _ _ _ h => h, ?_⟩; (intro w hSw; (try dsimp only at hSw); go_simp; (try with_reducible rfl)); (try simp only [Act.put, List.setIfInBounds_toArray, List.set_cons_zero, List.set_cons_succ])
                refine wpAnyH_done (by kernel_rfl) ?_ _
                clear hE hRg hbel7 hgr7 hfs7 hl hb own hF
                have hF := hl7
                (repeat unfold Loc at hF)
                go_wp2
                go_roundw
                case rel => exact ⟨k + 1, by go_num, by omega, own7, hl7, hb7⟩
                case measure => simp [intOf]; omega
              · obtain rfl : k = n := by omega
                have d5 : decide ((k : Int) < (k : Int)) = false := by simp
                have d5' : decide (k < k) = false := by simp
                clear hlt hPL
                go_wp2
                go_ret2
                exact ⟨_, by rw [HR2.out]; rfl, by rw [HR2.out]; exact own.mono (by omega), hb⟩
        · have d1 : (b != a + ws) = true := by simp [hin2]
          have hres : pparts 2 ws we a b = ([], 2) := by unfold pparts; rw [if_neg (by rw [← hC]; simp [hC0]), if_pos (.inr (.inr hin2))]
          rw [hres]
          subst hC0
          clear htc hres hC ht hw2 hw3 s1 s2 htm hin1 hin2
          go_enter Try.func28, Try.ntmps28
          go_wp2_with fail
          go_at_call 35
          refine (HSL.out _).mono ?_
          rintro r w3 ⟨rfl, hb3⟩
          have hl3 := hl2.below hb3
          have hF := hl3
          (repeat unfold Loc at hF)
          go_wp2_with fail
          go_at_call 18
          refine (HTC.out _).mono ?_
          rintro r w4 ⟨rfl, rfl⟩
          go_wp2
          go_ret2
          exact ⟨.slice none 0 0, rfl, Own.nil _ _ _, below_then hb2 hb3⟩
      · have hm0 : (a.tmod we != 0) = true := by simp; exact fun h => hin1 (htm.1 h)
        have hres : pparts 2 ws we a b = ([], 2) := by unfold pparts; rw [if_neg (by rw [← hC]; simp [hC0]), if_pos (.inr (.inl hin1))]
        have hmb := tmod_bound (t := a) (s := we) (by omega)
        have em : IntKind.i64.wrap (a.tmod we) = a.tmod we := IntWalk.i64_in _ (by omega)
        rw [hres]
        subst hC0
        clear htc hres hC ht hw2 hw3 s1 s2 htm hin1 hmb
        go_enter Try.func28, Try.ntmps28
        go_wp2_with fail
        go_at_call 35
        refine (HSL.out _).mono ?_
        rintro r w3 ⟨rfl, hb3⟩
        have hl3 := hl2.below hb3
        have hF := hl3
        (repeat unfold Loc at hF)
        go_wp2_with fail
        go_at_call 18
        refine (HTC.out _).mono ?_
        rintro r w4 ⟨rfl, rfl⟩
        go_wp2
        go_ret2
        exact ⟨.slice none 0 0, rfl, Own.nil _ _ _, below_then hb2 hb3⟩
  · have d0 : (C != 0) = true := by simp [hC0]
    have hres : pparts k ws we a b = ([], C) := by unfold pparts; rw [← hC, if_pos hC0]
    rw [hres]
    clear hC hC0 hres
    go_enter Try.func28, Try.ntmps28
    go_wp2_with fail
    go_at_call 35
    refine (HSL.out _).mono ?_
    rintro r w3 ⟨rfl, hb3⟩
    go_wp2
    go_ret2
    exact ⟨.slice none 0 0, rfl, Own.nil _ _ _, below_then hb2 hb3⟩
end Go.Proofs.Ytbbdepeifdbbdaa
