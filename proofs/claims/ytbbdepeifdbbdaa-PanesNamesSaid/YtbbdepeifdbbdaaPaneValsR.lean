/- The contract of the reference's Values (chapter 19). Condition: numbers within their types. -/
import Derived.Test.YtbbdepeifdbbdaaPaneVals
namespace Go.Proofs.Ytbbdepeifdbbdaa
open Go.RowKit

def ValsP (wk ws we : Int) (l : List Pt) (w : World) (r : Ending) (w' : World) : Prop :=
  ∃ v, r = .returned (.tuple #[v, .int .i64 (pvals wk ws we l).2]) ∧ Own enenc 11 w' w.heap.size 43 v (pvals wk ws we l).1 ∧ Below w.heap.size w w'
set_option maxHeartbeats 16000000 in
set_option maxRecDepth 100000 in
theorem rvals_any (A : Option Addr) (c n : Nat) (l : List Pt) (wk ws we : Int) (hwe : (Lit.int .i64 we).wf = true) (w : World) (hln : l.length = n) (hn : n ≤ 1099511627776) (hr : Rd rcenc 3 w w.heap.size A l) (hok : ∀ x ∈ l, rctok x) :
    Calls Try.prog 30 #[.agg #[.int .u8 wk, .int .i64 ws, .int .i64 we], .slice A n c] w (ValsP wk ws we l w) := by
  have HLN := Lib.hid hln
  obtain ⟨R, hR⟩ : ∃ R, R = pvals wk ws we l := ⟨_, rfl⟩
  unfold ValsP
  rw [← hR]
  have HR := Lib.hid hR
  have hs := fun W => asked_any wk ws we hwe W
  obtain ⟨C, hC⟩ : ∃ C, C = slchk wk ws we := ⟨_, rfl⟩
  rw [← hC] at hs
  have HSL := Lib.hid hs; have HC := Lib.hid hC
  clear hs hR hln hC
  have hL : Loc w [] := trivial
  have hl0 : Loc (w.alloc (.cells #[.int .u8 wk, .int .i64 ws, .int .i64 we] 23)) [(w.heap.size, [.int .u8 wk, .int .i64 ws, .int .i64 we])] := hL.new [.int .u8 wk, .int .i64 ws, .int .i64 we] 23
  have hb0 : Below w.heap.size w (w.alloc (.cells #[.int .u8 wk, .int .i64 ws, .int .i64 we] 23)) := below_new (Below.refl _ _) _
  by_cases hC0 : C = 0
  · by_cases h4 : 240 < n
    · have hR2 : R = ([], 4) := by rw [HR.out]; unfold pvals; rw [if_neg (by rw [← HC.out]; simp [hC0]), if_pos (by rw [HLN.out]; exact h4)]
      subst hR2 hC0
      have d1 : decide ((240 : Int) < (n : Int)) = true := by simp; omega
      have d2 : decide (240 < n) = true := by simp [h4]
      go_enter Try.func30, Try.ntmps30
      go_wp2_with fail
      go_at_call 35
      refine (HSL.out _).mono ?_
      rintro r w3 ⟨rfl, hb3⟩
      go_wp2
      go_ret2
      exact ⟨.slice none 0 0, rfl, Own.nil _ _ _, below_then hb0 hb3⟩
    · have hwok : wok wk ws we := (slchk_zero.1 (HC.out.symm.trans hC0)).1
      have HW := Lib.hid hwok
      have hR2 : R = if l.all timeB = true then ((allE wk ws we [] l).getD [], 0) else ([], 16) := by rw [HR.out]; unfold pvals; rw [if_neg (by rw [← HC.out]; simp [hC0]), if_neg (by rw [HLN.out]; exact h4)]
      have HR2 := Lib.hid hR2
      have d1 : decide ((240 : Int) < (n : Int)) = false := by simp; omega
      have d2 : decide (240 < n) = false := by simp; omega
      have HOK := Lib.hid hok
      subst hC0
      clear hwok hR2 hok HR HC
      go_enter Try.func30, Try.ntmps30
      go_wp2_with fail
      go_at_call 35
      refine (HSL.out _).mono ?_
      rintro r w3 ⟨rfl, hb3⟩
      have hl3 := hl0.below hb3
      have hb03 := below_then hb0 hb3
      clear hl0 hb0 hb3
      go_wp2_with fail
      go_loopw [7, 8] (fun ov iv wr => ∃ (k : Nat) (a : List En), iv = .int .i64 k ∧ k ≤ n ∧ Own enenc 11 wr w.heap.size 43 ov a ∧ a.length ≤ 4000 ∧ allE wk ws we [] (l.take k) = some a ∧ (∀ x ∈ l.take k, timeB x = true) ∧ Loc wr [(w.heap.size, [.int .u8 wk, .int .i64 ws, .int .i64 we])] ∧ Below w.heap.size w wr) (fun _ iv _ => n - (intOf iv).toNat)
      case atStart => exact ⟨0, [], rfl, Nat.zero_le _, Own.nil _ _ _, Nat.zero_le _, rfl, by simp, hl3, hb03⟩
      case round =>
        obtain ⟨k, a, rfl, hk, ho, hla, hall, htk, hl, hb⟩ := hrel
        have HALL := Lib.hid hall; have HTK := Lib.hid htk
        clear hall hl3 htk
        have hF := hl
        (repeat unfold Loc at hF)
        obtain ⟨m, hm⟩ : ∃ m, a.length = m := ⟨_, rfl⟩
        rw [hm] at hla
        obtain ⟨Ar, cr, rfl, -⟩ := own_shape_n ho hm
        have HM := Lib.hid hm
        have HZ := Lib.hid (own_noneZ ho)
        clear hm
        by_cases hlt : k < n
        · obtain ⟨p, hp⟩ : ∃ p, l[k]? = some p := ⟨_, List.getElem?_eq_getElem (by rw [HLN.out]; exact hlt)⟩
          obtain ⟨b, off, rfl, hbb, f0, f1, f2⟩ := rc_cells (rd_grown hr hb) hp
          have hpl := List.mem_of_getElem? hp
          have d5 : decide ((k : Int) < (n : Int)) = true := by simp; omega
          have d5' : decide (k < n) = true := by simp [hlt]
          have k1 : (0 : Int) ≤ (k : Int) := by omega
          have k2 : (k : Int) < (n : Int) := by omega
          have e1 : IntKind.i64.wrap ((k : Int) + 1) = (k : Int) + 1 := IntWalk.i64_in _ (by omega)
          by_cases ht : timeB p = true
          · obtain ⟨s1, s2, s3, s4, ⟨a2, s5, s6, s7⟩, s8⟩ := vals_step HW.out (fun x hx => (HOK.out x hx).1) (by rw [HLN.out]; omega) hp ht HTK.out HALL.out
            have htc := fun W => rcheck_any p.t 1 W
            rw [show tchk p.t 1 = 0 by unfold timeB at ht; unfold tchk; simp at ht; rw [if_neg (by omega), if_neg (by omega)]] at htc
            have ht2 : -1099511627776 ≤ p.t ∧ p.t ≤ 1099511627776 := by unfold timeB at ht; simpa using ht
            have hcall := fun W (h : Rd enenc 11 W W.heap.size Ar a) => given_any Ar cr m a wk ws we p.k p.t p.v 0 W (HOK.out p hpl).2 HM.out HZ.out (by omega) h s1 s2 s3 HW.out (.inl rfl) ht2.1 ht2.2
            unfold GivenP at hcall
            rw [s5] at hcall
            simp only at hcall
            have HCALL := Lib.hid hcall; have HTC := Lib.hid htc; have S7 := Lib.hid s7; have S6 := Lib.hid s6; have S8 := Lib.hid s8
            clear hcall htc hp hpl ht ht2 s1 s2 s3 s4 s5 s6 s7 s8 hlt
            go_wp2_with fail
            go_at_call 18
            refine (HTC.out _).mono ?_
            rintro r w4 ⟨rfl, rfl⟩
            have F0 := Lib.hid f0; have F1 := Lib.hid f1; have F2 := Lib.hid f2
            clear hF f0 f1 f2
            go_simp
            rename_i hKK
            refine hKK _ _ ?_
            iterate 10 go_step
            obtain ⟨lE, hE, hRR⟩ := Env.abs (w0 := wr) (Below.refl _ _) hl
            (repeat unfold Loc at hRR)
            have f0 := F0.out; have f1 := F1.out; have f2 := F2.out
            have hRg : ∀ X, Env wr lE X → X.cell? ⟨b, off + k * 3, none⟩ = some (.int .i64 p.k) ∧ X.cell? ⟨b, off + k * 3 + 1, none⟩ = some (.int .i64 p.t) ∧ X.cell? ⟨b, off + k * 3 + 2, none⟩ = some (.int .i64 p.v) := fun X hX => ⟨(hX.1.cell (p := ⟨b, off + k * 3, none⟩) hbb).trans f0, (hX.1.cell (p := ⟨b, off + k * 3 + 1, none⟩) hbb).trans f1, (hX.1.cell (p := ⟨b, off + k * 3 + 2, none⟩) hbb).trans f2⟩
            clear f0 f1 f2
            refine wp_region_held_drew (S := Env wr lE) (by kernel_rfl) (by (first | assumption | exact Env.step (by assumption) (by assumption) | exact Env.old (by assumption) _ | exact Env.drew hE | exact hE | exact Env.drew (by assumption) | exact Env.drew (Env.old (by assumption) _) | ((repeat first | refine Env.far0 ?_ (by assumption) _ | refine Env.far1 ?_ (by assumption) _ | refine Env.farA ?_ (by assumption) _); assumption))) (fun hHeld => ?_)
            refine hTake 0 (by kernel_rfl) (by kernel_rfl) (by kernel_rfl) (by decide) (by assumption) ?_; (intro oi hoi; simp only [List.getElem?_toArray, List.getElem?_cons_zero] at hoi; obtain rfl := Option.some.inj hoi; clear hoi); refine ⟨rfl, ?_⟩; apply Exists.intro; refine ⟨?_, fun _ _ _ h => h, ?_⟩; (intro w hSw; (try dsimp only at hSw); go_simp; (try with_reducible rfl)); (try simp only [Act.put, List.setIfInBounds_toArray, List.set_cons_zero, List.set_cons_succ]); refine hTake 1 (by kernel_rfl) (by kernel_rfl) (by kernel_rfl) (by decide) (by assumption) ?_; (intro oi hoi; simp only [List.getElem?_toArray, List.getElem?_cons_succ, List.getElem?_cons_zero] at hoi; obtain rfl := Option.some.inj hoi; clear hoi); refine ⟨rfl, ?_⟩; apply Exists.intro; refine ⟨?_, fun _ _ _ h => h, ?_⟩; (intro w hSw; (try dsimp only at hSw); go_simp; (try with_reducible rfl)); (try simp only [Act.put, List.setIfInBounds_toArray, List.set_cons_zero, List.set_cons_succ]); refine hTake 2 (by kernel_rfl) (by kernel_rfl) (by kernel_rfl) (by decide) (by assumption) ?_; (intro oi hoi; simp only [List.getElem?_toArray, List.getElem?_cons_succ, List.getElem?_cons_zero] at hoi; obtain rfl := Option.some.inj hoi; clear hoi); refine ⟨rfl, ?_⟩; apply Exists.intro; refine ⟨?_, fun _ _ _ h => h, ?_⟩; (intro w hSw; (try dsimp only at hSw); go_simp; (try with_reducible rfl)); (try simp only [Act.put, List.setIfInBounds_toArray, List.set_cons_zero, List.set_cons_succ]); refine hTake 3 (by kernel_rfl) (by kernel_rfl) (by kernel_rfl) (by decide) (by assumption) ?_; (intro oi hoi; simp only [List.getElem?_toArray, List.getElem?_cons_succ, List.getElem?_cons_zero] at hoi; obtain rfl := Option.some.inj hoi; clear hoi); refine ⟨rfl, ?_⟩; apply Exists.intro; refine ⟨?_, fun _ _ _ h => h, ?_⟩; (intro w hSw; (try dsimp only at hSw); go_simp; (try with_reducible rfl)); (try simp only [Act.put, List.setIfInBounds_toArray, List.set_cons_zero, List.set_cons_succ]); refine hTake 4 (by kernel_rfl) (by kernel_rfl) (by kernel_rfl) (by decide) (by assumption) ?_; (intro oi hoi; simp only [List.getElem?_toArray, List.getElem?_cons_succ, List.getElem?_cons_zero] at hoi; obtain rfl := Option.some.inj hoi; clear hoi); refine ⟨rfl, ?_⟩; apply Exists.intro; refine ⟨?_, fun _ _ _ h => h, ?_⟩; (intro w hSw; (try dsimp only at hSw); go_simp; (try with_reducible rfl)); (try simp only [Act.put, List.setIfInBounds_toArray, List.set_cons_zero, List.set_cons_succ]); refine hTake 5 (by kernel_rfl) (by kernel_rfl) (by kernel_rfl) (by decide) (by assumption) ?_; (intro oi hoi; simp only [List.getElem?_toArray, List.getElem?_cons_succ, List.getElem?_cons_zero] at hoi; obtain rfl := Option.some.inj hoi; clear hoi); refine ⟨rfl, ?_⟩; apply Exists.intro; refine ⟨?_, fun _ _ _ h => h, ?_⟩; (intro w hSw; (try dsimp only at hSw); go_simp; (try with_reducible rfl)); (try simp only [Act.put, List.setIfInBounds_toArray, List.set_cons_zero, List.set_cons_succ])
            refine hOnly 6 (by kernel_rfl) (by decide) ?_; (intro oi hoi; simp only [List.getElem?_toArray, List.getElem?_cons_succ, List.getElem?_cons_zero] at hoi; obtain rfl := Option.some.inj hoi; clear hoi); intro K hK; go_simp
            go_at_call 72
            refine (HCALL.out wr.drew (Rd.drew (Own.rd enenc_len ho))).mono ?_
            rintro r w5 ⟨v5, rfl, own5, hb5⟩
            have hEhb5 := Env.step hb5 (by assumption); (try (have hqhb5 := (by with_reducible first | exact Loc.below hb5 (Loc.new (Loc.nil _) _ _) | exact Loc.below hb5 (Loc.drew (Loc.new (Loc.nil _) _ _)) | exact Loc.below hb5 (by assumption : Loc _ [_])); (repeat rw [World.size_drew] at hqhb5); (repeat rw [World.size_alloc] at hqhb5); have hrhb5 := hqhb5; (repeat unfold Loc at hrhb5)))
            (refine hK.out _ _ (by (first | assumption | exact Env.step (by assumption) (by assumption) | exact Env.old (by assumption) _ | exact Env.drew hE | exact hE | exact Env.drew (by assumption) | exact Env.drew (Env.old (by assumption) _) | ((repeat first | refine Env.far0 ?_ (by assumption) _ | refine Env.far1 ?_ (by assumption) _ | refine Env.farA ?_ (by assumption) _); assumption))) (fun hHeld => ?_); clear hK K; (try simp only [Act.put, List.setIfInBounds_toArray, List.set_cons_zero, List.set_cons_succ]))
            refine hTake 7 (by kernel_rfl) (by kernel_rfl) (by kernel_rfl) (by decide) (by assumption) ?_; (intro oi hoi; simp only [List.getElem?_toArray, List.getElem?_cons_succ, List.getElem?_cons_zero] at hoi; obtain rfl := Option.some.inj hoi; clear hoi); refine ⟨rfl, ?_⟩; apply Exists.intro; refine ⟨?_, fun _ _ _ h => h, ?_⟩; (intro w hSw; (try dsimp only at hSw); go_simp; (try with_reducible rfl)); (try simp only [Act.put, List.setIfInBounds_toArray, List.set_cons_zero, List.set_cons_succ]); refine hTake 8 (by kernel_rfl) (by kernel_rfl) (by kernel_rfl) (by decide) (by assumption) ?_; (intro oi hoi; simp only [List.getElem?_toArray, List.getElem?_cons_succ, List.getElem?_cons_zero] at hoi; obtain rfl := Option.some.inj hoi; clear hoi); refine ⟨rfl, ?_⟩; apply Exists.intro; refine ⟨?_, fun _ _ _ h => h, ?_⟩; (intro w hSw; (try dsimp only at hSw); go_simp; (try with_reducible rfl)); (try simp only [Act.put, List.setIfInBounds_toArray, List.set_cons_zero, List.set_cons_succ]); refine hTake 9 (by kernel_rfl) (by kernel_rfl) (by kernel_rfl) (by decide) (by assumption) ?_; (intro oi hoi; simp only [List.getElem?_toArray, List.getElem?_cons_succ, List.getElem?_cons_zero] at hoi; obtain rfl := Option.some.inj hoi; clear hoi); refine ⟨rfl, ?_⟩; apply Exists.intro; refine ⟨?_, fun _ _ _ h => h, ?_⟩; (intro w hSw; (try dsimp only at hSw); go_simp; (try with_reducible rfl)); (try simp only [Act.put, List.setIfInBounds_toArray, List.set_cons_zero, List.set_cons_succ]); refine hTake 10 (by kernel_rfl) (by kernel_rfl) (by kernel_rfl) (by decide) (by assumption) ?_; (intro oi hoi; simp only [List.getElem?_toArray, List.getElem?_cons_succ, List.getElem?_cons_zero] at hoi; obtain rfl := Option.some.inj hoi; clear hoi); refine ⟨rfl, ?_⟩; apply Exists.intro; refine ⟨?_, fun _ _ _ h => h, ?_⟩; (intro w hSw; (try dsimp only at hSw); go_simp; (try with_reducible rfl)); (try simp only [Act.put, List.setIfInBounds_toArray, List.set_cons_zero, List.set_cons_succ])
            refine wpAnyH_done (by kernel_rfl) ?_ _
            have hl5 := hl.drew.below hb5
            have hb6 : Below w.heap.size w w5 := below_then (below_drew hb) hb5
            have own6 := own5.mono hb.size
            clear hRR hRg
            go_wp2
            go_roundw
            case rel => exact ⟨k + 1, a2, by go_num, by omega, own6, S7.out, S6.out, S8.out, hl5, hb6⟩
            case measure => simp [intOf]; omega
          · have htc := fun W => rcheck_any p.t 1 W
            rw [show tchk p.t 1 = 16 by unfold timeB at ht; unfold tchk; simp at ht; rw [if_neg (by omega), if_pos (by omega)]] at htc
            have HTC := Lib.hid htc
            have hR3 : R = ([], 16) := by
              rw [HR2.out, if_neg]
              intro h
              rw [List.all_eq_true] at h
              exact ht (h p hpl)
            subst hR3
            clear htc hp hpl ht hlt HR2
            go_wp2_with fail
            go_at_call 18
            refine (HTC.out _).mono ?_
            rintro r w4 ⟨rfl, rfl⟩
            go_wp2
            go_ret2
            exact ⟨.slice none 0 0, rfl, Own.nil _ _ _, hb⟩
        · obtain rfl : k = n := by omega
          have d5 : decide ((k : Int) < (k : Int)) = false := by simp
          have d5' : decide (k < k) = false := by simp
          have hR3 : R = (a, 0) := by
            have e : l.take k = l := List.take_of_length_le (by rw [HLN.out]; exact Nat.le_refl _)
            have h1 := HTK.out
            have h2 := HALL.out
            rw [e] at h1 h2
            rw [HR2.out, if_pos (List.all_eq_true.2 h1), h2]
            rfl
          subst hR3
          clear hlt HR2
          go_wp2
          go_ret2
          exact ⟨_, rfl, ho, hb⟩
  · have d0 : (C != 0) = true := by simp [hC0]
    have hR2 : R = ([], C) := by rw [HR.out]; unfold pvals; rw [← HC.out, if_pos hC0]
    subst hR2
    clear hC0
    go_enter Try.func30, Try.ntmps30
    go_wp2_with fail
    go_at_call 35
    refine (HSL.out _).mono ?_
    rintro r w3 ⟨rfl, hb3⟩
    go_wp2
    go_ret2
    exact ⟨.slice none 0 0, rfl, Own.nil _ _ _, below_then hb0 hb3⟩
end Go.Proofs.Ytbbdepeifdbbdaa
