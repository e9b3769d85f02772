/- The walk of PanesSame: the entries by panes are those of a store to which the records are added one by one. No condition. -/
import Derived.Test.YtbbdepeifdbbdaaPaneTells
namespace Go.Proofs.Ytbbdepeifdbbdaa
open Go.RowKit Go.ChangeShapes Go.WideShapes Go.ChangeAt Go.Deep

theorem add_of_all {wk ws we : Int} {l : List Pt} {k : Nat} {p : Pt} {a b : List En} (hp : l[k]? = some p) (ha : allE wk ws we [] (l.take k) = some a) (hb : allE wk ws we [] (l.take (k + 1)) = some b) : addE a wk ws we p.k p.t p.v p.d = (b, 0) := by
  rw [allE_snoc hp ha] at hb
  split at hb
  · rename_i h
    injection hb with hb
    exact Prod.ext hb h
  · cases hb
set_option maxHeartbeats 16000000 in
set_option maxRecDepth 100000 in
theorem panesSame_walk {w : World} (wk : Int) (_wwk : (Lit.int .u8 wk).wf = true) (ws : Int) (_wws : (Lit.int .i64 ws).wf = true) (we : Int) (wwe : (Lit.int .i64 we).wf = true)
    (A : Option Addr) (c : Nat) (l : List Pt) (_lc : l.length ≤ c) (_lm : c ≤ maxLen) (lw : ∀ x ∈ l, rctok x) (lr : Rd rcenc 3 w w.heap.size A l) (_ln : A = none → c = 0) :
    Calls Try.prog 15 #[.agg #[.int .u8 wk, .int .i64 ws, .int .i64 we], .slice A l.length c] w fun r w' => r = .returned (.bool true) ∧ Below w.heap.size w w' := by
  obtain ⟨n, hn⟩ : ∃ n, l.length = n := ⟨_, rfl⟩
  rw [hn]
  have hs := fun W => asked_any wk ws we wwe W
  obtain ⟨C, hC⟩ : ∃ C, C = slchk wk ws we := ⟨_, rfl⟩
  rw [← hC] at hs
  have HSL := Lib.hid hs; have HLN := Lib.hid hn; have HOK := Lib.hid lw
  have hl0 : Loc (w.alloc (.cells #[.int .u8 wk, .int .i64 ws, .int .i64 we] 23)) [(w.heap.size, [.int .u8 wk, .int .i64 ws, .int .i64 we])] := (Loc.nil w).new [.int .u8 wk, .int .i64 ws, .int .i64 we] 23
  have hb0 : Below w.heap.size w (w.alloc (.cells #[.int .u8 wk, .int .i64 ws, .int .i64 we] 23)) := below_new (Below.refl _ _) _
  clear hs hn lw
  by_cases h40 : 40 < n
  · have d1 : decide ((40 : Int) < (n : Int)) = true := by simp; omega
    have d1' : decide (40 < n) = true := by simp [h40]
    clear hC
    go_enter Try.func15, Try.ntmps15
    go_wp2_with fail
    go_at_call 34
    refine (alive19 _).mono ?_
    rintro r w2 ⟨rfl, hb2⟩
    go_wp2
    go_ret
    exact ⟨rfl, below_then hb0 hb2⟩
  · have d1 : decide ((40 : Int) < (n : Int)) = false := by simp; omega
    have d1' : decide (40 < n) = false := by simp; omega
    by_cases hC0 : C = 0
    · have hwz := hC.symm.trans hC0
      obtain ⟨hwok, rfl⟩ := slchk_zero.1 hwz
      have HW := Lib.hid hwok; have HWZ := Lib.hid hwz
      subst hC0
      clear hwok hC hwz
      go_enter Try.func15, Try.ntmps15
      go_wp2_with fail
      go_at_call 34
      refine (alive19 _).mono ?_
      rintro r w2 ⟨rfl, hb2⟩
      have hl2 := hl0.below hb2
      have hbb2 := below_then hb0 hb2
      clear hl0 hb0 hb2
      have hF := hl2
      (repeat unfold Loc at hF)
      go_wp2_with fail
      go_at_call 35
      refine (HSL.out _).mono ?_
      rintro r w3 ⟨rfl, hb3⟩
      have hl3 := hl2.below hb3
      have hbb3 := below_then hbb2 hb3
      clear hF hl2 hbb2 hb3
      go_wp2_with fail
      go_loopw [6, 7] (fun ov iv wr => ∃ (k : Nat) (a : List En), iv = .int .i64 k ∧ k ≤ n ∧ Own enenc 11 wr w.heap.size 43 ov a ∧ allE 2 ws we [] (l.take k) = some a ∧ (∀ x ∈ l.take k, timeB x = true) ∧ a.length ≤ 4000 ∧ Loc wr [(w.heap.size, [.int .u8 2, .int .i64 ws, .int .i64 we])] ∧ Below w.heap.size w wr) (fun _ iv _ => n - (intOf iv).toNat)
      case atStart => exact ⟨0, [], rfl, Nat.zero_le _, Own.nil _ _ _, rfl, by simp, by simp, hl3, hbb3⟩
      case round =>
        obtain ⟨k, a, rfl, hk, ho, hall, htk, hla, hl, hb⟩ := hrel
        have HALL := Lib.hid hall; have HTK := Lib.hid htk
        clear hall hl3 htk hbb3
        have hF := hl
        (repeat unfold Loc at hF)
        obtain ⟨m, hm⟩ : ∃ m, a.length = m := ⟨_, rfl⟩
        rw [hm] at hla
        obtain ⟨Ar, cr, rfl, -⟩ := own_shape_n ho hm
        have HM := Lib.hid hm
        have HZ := Lib.hid (own_noneZ ho)
        clear hm
        by_cases hlt : k < n
        · obtain ⟨p, hp⟩ : ∃ p, l[k]? = some p := ⟨_, List.getElem?_eq_getElem (by rw [HLN.out]; exact hlt)⟩
          obtain ⟨b, off, rfl, hbb, f0, f1, f2⟩ := rc_cells (rd_grown lr hb) hp
          have hpl := List.mem_of_getElem? hp
          have d5 : decide ((k : Int) < (n : Int)) = true := by simp; omega
          have d5' : decide (k < n) = true := by simp [hlt]
          have k1 : (0 : Int) ≤ (k : Int) := by omega
          have k2 : (k : Int) < (n : Int) := by omega
          have e1 : IntKind.i64.wrap ((k : Int) + 1) = (k : Int) + 1 := IntWalk.i64_in _ (by omega)
          by_cases ht : timeB p = true
          · obtain ⟨s1, s2, s3, s4, ⟨a2, s5, s6, s7⟩, s8⟩ := vals_step HW.out (fun x hx => (HOK.out x hx).1) (by rw [HLN.out]; omega) hp ht HTK.out HALL.out
            have hadd := add_of_all hp HALL.out s6
            rw [(HOK.out p hpl).1] at hadd
            have htc := fun W => rcheck_any p.t 1 W
            rw [show tchk p.t 1 = 0 by unfold timeB at ht; unfold tchk; simp at ht; rw [if_neg (by omega), if_neg (by omega)]] at htc
            have hcall := fun W (h : Rd enenc 11 W W.heap.size Ar a) => add_any Ar cr m a 2 ws we p.k p.t p.v 0 wwe W HM.out HZ.out (by omega) h
            unfold AddP at hcall
            rw [hadd] at hcall
            simp only at hcall
            have HCALL := Lib.hid hcall; have HTC := Lib.hid htc; have S7 := Lib.hid s7; have S6 := Lib.hid s6; have S8 := Lib.hid s8
            clear hcall htc hp hpl ht s1 s2 s3 s4 s5 s6 s7 s8 hlt hadd
            go_wp2_with fail
            go_at_call 18
            refine (HTC.out _).mono ?_
            rintro r w4 ⟨rfl, rfl⟩
            go_wp2_with fail
            obtain ⟨lE, hE, hRR⟩ := Env.abs (w0 := wr) (Below.refl _ _) hl
            (repeat unfold Loc at hRR)
            have hRg : ∀ X, Env wr lE X → X.cell? ⟨b, off + k * 3, none⟩ = some (.int .i64 p.k) ∧ X.cell? ⟨b, off + k * 3 + 1, none⟩ = some (.int .i64 p.t) ∧ X.cell? ⟨b, off + k * 3 + 2, none⟩ = some (.int .i64 p.v) := fun X hX => ⟨(hX.1.cell (p := ⟨b, off + k * 3, none⟩) hbb).trans f0, (hX.1.cell (p := ⟨b, off + k * 3 + 1, none⟩) hbb).trans f1, (hX.1.cell (p := ⟨b, off + k * 3 + 2, none⟩) hbb).trans f2⟩
            clear hF f0 f1 f2
            refine wp_region_held_drew (S := Env wr lE) (by kernel_rfl) (by (first | assumption | exact Env.step (by assumption) (by assumption) | exact Env.old (by assumption) _ | exact Env.drew hE | exact hE | exact Env.drew (by assumption) | exact Env.drew (Env.old (by assumption) _) | ((repeat first | refine Env.far0 ?_ (by assumption) _ | refine Env.far1 ?_ (by assumption) _ | refine Env.farA ?_ (by assumption) _); assumption))) (fun hHeld => ?_)
            refine hTake 0 (by kernel_rfl) (by kernel_rfl) (by kernel_rfl) (by decide) (by assumption) ?_; (intro oi hoi; simp only [List.getElem?_toArray, List.getElem?_cons_zero] at hoi; obtain rfl := Option.some.inj hoi; clear hoi); refine ⟨rfl, ?_⟩; apply Exists.intro; refine ⟨?_, fun _ _ _ h => h, ?_⟩; (intro w hSw; (try dsimp only at hSw); go_simp; (try with_reducible rfl)); (try simp only [Act.put, List.setIfInBounds_toArray, List.set_cons_zero, List.set_cons_succ]); refine hTake 1 (by kernel_rfl) (by kernel_rfl) (by kernel_rfl) (by decide) (by assumption) ?_; (intro oi hoi; simp only [List.getElem?_toArray, List.getElem?_cons_succ, List.getElem?_cons_zero] at hoi; obtain rfl := Option.some.inj hoi; clear hoi); refine ⟨rfl, ?_⟩; apply Exists.intro; refine ⟨?_, fun _ _ _ h => h, ?_⟩; (intro w hSw; (try dsimp only at hSw); go_simp; (try with_reducible rfl)); (try simp only [Act.put, List.setIfInBounds_toArray, List.set_cons_zero, List.set_cons_succ]); refine hTake 2 (by kernel_rfl) (by kernel_rfl) (by kernel_rfl) (by decide) (by assumption) ?_; (intro oi hoi; simp only [List.getElem?_toArray, List.getElem?_cons_succ, List.getElem?_cons_zero] at hoi; obtain rfl := Option.some.inj hoi; clear hoi); refine ⟨rfl, ?_⟩; apply Exists.intro; refine ⟨?_, fun _ _ _ h => h, ?_⟩; (intro w hSw; (try dsimp only at hSw); go_simp; (try with_reducible rfl)); (try simp only [Act.put, List.setIfInBounds_toArray, List.set_cons_zero, List.set_cons_succ]); refine hTake 3 (by kernel_rfl) (by kernel_rfl) (by kernel_rfl) (by decide) (by assumption) ?_; (intro oi hoi; simp only [List.getElem?_toArray, List.getElem?_cons_succ, List.getElem?_cons_zero] at hoi; obtain rfl := Option.some.inj hoi; clear hoi); refine ⟨rfl, ?_⟩; apply Exists.intro; refine ⟨?_, fun _ _ _ h => h, ?_⟩; (intro w hSw; (try dsimp only at hSw); go_simp; (try with_reducible rfl)); (try simp only [Act.put, List.setIfInBounds_toArray, List.set_cons_zero, List.set_cons_succ]); refine hTake 4 (by kernel_rfl) (by kernel_rfl) (by kernel_rfl) (by decide) (by assumption) ?_; (intro oi hoi; simp only [List.getElem?_toArray, List.getElem?_cons_succ, List.getElem?_cons_zero] at hoi; obtain rfl := Option.some.inj hoi; clear hoi); refine ⟨rfl, ?_⟩; apply Exists.intro; refine ⟨?_, fun _ _ _ h => h, ?_⟩; (intro w hSw; (try dsimp only at hSw); go_simp; (try with_reducible rfl)); (try simp only [Act.put, List.setIfInBounds_toArray, List.set_cons_zero, List.set_cons_succ]); refine hTake 5 (by kernel_rfl) (by kernel_rfl) (by kernel_rfl) (by decide) (by assumption) ?_; (intro oi hoi; simp only [List.getElem?_toArray, List.getElem?_cons_succ, List.getElem?_cons_zero] at hoi; obtain rfl := Option.some.inj hoi; clear hoi); refine ⟨rfl, ?_⟩; apply Exists.intro; refine ⟨?_, fun _ _ _ h => h, ?_⟩; (intro w hSw; (try dsimp only at hSw); go_simp; (try with_reducible rfl)); (try simp only [Act.put, List.setIfInBounds_toArray, List.set_cons_zero, List.set_cons_succ])
            refine hOnly 6 (by kernel_rfl) (by decide) ?_; (intro oi hoi; simp only [List.getElem?_toArray, List.getElem?_cons_succ, List.getElem?_cons_zero] at hoi; obtain rfl := Option.some.inj hoi; clear hoi); intro K hK; go_simp
            go_at_call 19
            refine (HCALL.out wr.drew (Rd.drew (Own.rd enenc_len ho))).mono ?_
            rintro r w5 ⟨v5, rfl, own5, hb5⟩
            have hEhb5 := Env.step hb5 (by assumption); (try (have hqhb5 := (by with_reducible first | exact Loc.below hb5 (Loc.new (Loc.nil _) _ _) | exact Loc.below hb5 (Loc.drew (Loc.new (Loc.nil _) _ _)) | exact Loc.below hb5 (by assumption : Loc _ [_])); (repeat rw [World.size_drew] at hqhb5); (repeat rw [World.size_alloc] at hqhb5); have hrhb5 := hqhb5; (repeat unfold Loc at hrhb5)))
            (refine hK.out _ _ (by (first | assumption | exact Env.step (by assumption) (by assumption) | exact Env.old (by assumption) _ | exact Env.drew hE | exact hE | exact Env.drew (by assumption) | exact Env.drew (Env.old (by assumption) _) | ((repeat first | refine Env.far0 ?_ (by assumption) _ | refine Env.far1 ?_ (by assumption) _ | refine Env.farA ?_ (by assumption) _); assumption))) (fun hHeld => ?_); clear hK K; (try simp only [Act.put, List.setIfInBounds_toArray, List.set_cons_zero, List.set_cons_succ]))
            refine hTake 7 (by kernel_rfl) (by kernel_rfl) (by kernel_rfl) (by decide) (by assumption) ?_; (intro oi hoi; simp only [List.getElem?_toArray, List.getElem?_cons_succ, List.getElem?_cons_zero] at hoi; obtain rfl := Option.some.inj hoi; clear hoi); refine ⟨rfl, ?_⟩; apply Exists.intro; refine ⟨?_, fun _ _ _ h => h, ?_⟩; (intro w hSw; (try dsimp only at hSw); go_simp; (try with_reducible rfl)); (try simp only [Act.put, List.setIfInBounds_toArray, List.set_cons_zero, List.set_cons_succ]); refine hTake 8 (by kernel_rfl) (by kernel_rfl) (by kernel_rfl) (by decide) (by assumption) ?_; (intro oi hoi; simp only [List.getElem?_toArray, List.getElem?_cons_succ, List.getElem?_cons_zero] at hoi; obtain rfl := Option.some.inj hoi; clear hoi); refine ⟨rfl, ?_⟩; apply Exists.intro; refine ⟨?_, fun _ _ _ h => h, ?_⟩; (intro w hSw; (try dsimp only at hSw); go_simp; (try with_reducible rfl)); (try simp only [Act.put, List.setIfInBounds_toArray, List.set_cons_zero, List.set_cons_succ]); refine hTake 9 (by kernel_rfl) (by kernel_rfl) (by kernel_rfl) (by decide) (by assumption) ?_; (intro oi hoi; simp only [List.getElem?_toArray, List.getElem?_cons_succ, List.getElem?_cons_zero] at hoi; obtain rfl := Option.some.inj hoi; clear hoi); refine ⟨rfl, ?_⟩; apply Exists.intro; refine ⟨?_, fun _ _ _ h => h, ?_⟩; (intro w hSw; (try dsimp only at hSw); go_simp; (try with_reducible rfl)); (try simp only [Act.put, List.setIfInBounds_toArray, List.set_cons_zero, List.set_cons_succ]); refine hTake 10 (by kernel_rfl) (by kernel_rfl) (by kernel_rfl) (by decide) (by assumption) ?_; (intro oi hoi; simp only [List.getElem?_toArray, List.getElem?_cons_succ, List.getElem?_cons_zero] at hoi; obtain rfl := Option.some.inj hoi; clear hoi); refine ⟨rfl, ?_⟩; apply Exists.intro; refine ⟨?_, fun _ _ _ h => h, ?_⟩; (intro w hSw; (try dsimp only at hSw); go_simp; (try with_reducible rfl)); (try simp only [Act.put, List.setIfInBounds_toArray, List.set_cons_zero, List.set_cons_succ]); refine hTake 11 (by kernel_rfl) (by kernel_rfl) (by kernel_rfl) (by decide) (by assumption) ?_; (intro oi hoi; simp only [List.getElem?_toArray, List.getElem?_cons_succ, List.getElem?_cons_zero] at hoi; obtain rfl := Option.some.inj hoi; clear hoi); refine ⟨rfl, ?_⟩; apply Exists.intro; refine ⟨?_, fun _ _ _ h => h, ?_⟩; (intro w hSw; (try dsimp only at hSw); go_simp; (try with_reducible rfl)); (try simp only [Act.put, List.setIfInBounds_toArray, List.set_cons_zero, List.set_cons_succ])
            refine wpAnyH_done (by kernel_rfl) ?_ _
            have hl5 := hl.drew.below hb5
            have hb6 : Below w.heap.size w w5 := below_then (below_drew hb) hb5
            have own6 := own5.mono hb.size
            clear hRR hRg
            go_wp2
            go_roundw
            case rel => exact ⟨k + 1, a2, by go_num, by omega, own6, S6.out, S8.out, S7.out, hl5, hb6⟩
            case measure => simp [intOf]; omega
          · have htc := fun W => rcheck_any p.t 1 W
            rw [show tchk p.t 1 = 16 by unfold timeB at ht; unfold tchk; simp at ht; rw [if_neg (by omega), if_pos (by omega)]] at htc
            have HTC := Lib.hid htc
            clear htc hp hpl ht hlt
            go_wp2_with fail
            go_at_call 18
            refine (HTC.out _).mono ?_
            rintro r w4 ⟨rfl, rfl⟩
            go_wp2
            go_ret
            exact ⟨rfl, hb⟩
        · obtain rfl : k = n := by omega
          have d5 : decide ((k : Int) < (k : Int)) = false := by simp
          have d5' : decide (k < k) = false := by simp
          have hpv : pvals 2 ws we l = (a, 0) := by
            have e : l.take k = l := List.take_of_length_le (by rw [HLN.out]; exact Nat.le_refl _)
            have h1 := HTK.out
            have h2 := HALL.out
            rw [e] at h1 h2
            unfold pvals
            rw [if_neg (by rw [HWZ.out]; simp), if_neg (by rw [HLN.out]; omega), if_pos (List.all_eq_true.2 h1), h2]
            rfl
          have HPV := Lib.hid hpv
          clear hlt hpv
          go_wp2_with fail
          go_at_call 29
          refine (values_any A c k l 2 ws we wwe _ HLN.out (by omega) (rd_grown lr hb) HOK.out).mono ?_
          rintro r w5 h5
          obtain ⟨A5, c5, rfl, m5, cm5, z5, r5, hb5⟩ := valsR_of HPV.out HM.out h5
          clear h5 hF
          go_wp2_with fail
          go_at_call 32
          refine (esame_yes A5 Ar c5 cr m a _ HM.out (by omega) r5 (rd_grown (Own.rd enenc_len ho) hb5)).mono ?_
          rintro r w6 ⟨rfl, hb6⟩
          go_wp2
          go_ret
          exact ⟨rfl, below_then (below_then hb hb5) hb6⟩
    · have d2 : (C != 0) = true := by simp [hC0]
      clear hC0 hC
      go_enter Try.func15, Try.ntmps15
      go_wp2_with fail
      go_at_call 34
      refine (alive19 _).mono ?_
      rintro r w2 ⟨rfl, hb2⟩
      have hl2 := hl0.below hb2
      have hF := hl2
      (repeat unfold Loc at hF)
      go_wp2_with fail
      go_at_call 35
      refine (HSL.out _).mono ?_
      rintro r w3 ⟨rfl, hb3⟩
      go_wp2
      go_ret
      exact ⟨rfl, below_then (below_then hb0 hb2) hb3⟩
end Go.Proofs.Ytbbdepeifdbbdaa
