/- The walk of the law TimersPush (chapter 18). No condition. (Printed by a program: region 5 of the law draws its order.) -/
import Derived.Test.YtffehibdeogjeaaTimersPKit
namespace Go.Proofs.Ytffehibdeogjeaa
open Go.RowKit

set_option maxHeartbeats 16000000 in
set_option maxRecDepth 100000 in
theorem timersPush_walk {w : World} (A : Option Addr) (c : Nat) (l : List Tm) (_lc : l.length ≤ c) (_lm : c ≤ maxLen) (_lw : ∀ x ∈ l, tmok x) (lr : Rd tenc 3 w w.heap.size A l) (ln : A = none → c = 0)
    (s : Int) (_ws : (Lit.int .i64 s).wf = true) (e : Int) (_we : (Lit.int .i64 e).wf = true) (k : Int) (_wk : (Lit.int .i64 k).wf = true) :
    Calls Try.prog 4 #[.slice A l.length c, .agg #[.int .i64 s, .int .i64 e, .int .i64 k]] w fun r w' => r = .returned (.bool true) ∧ Below w.heap.size w w' := by
  obtain ⟨n, hn'⟩ : ∃ n, n = l.length := ⟨_, rfl⟩
  have HA := Lib.hid ln
  clear ln
  by_cases hg : 120 < n
  · have b1 : decide ((120 : Int) < (n : Int)) = true := by simp; omega
    have b1' : decide (120 < n) = true := by simp [hg]
    rw [← hn']
    have hL : Loc w [] := trivial
    clear hn' hg
    go_enter Try.func4, Try.ntmps4
    go_wp2_with (first
      | (go_at_call 21; refine (alive18 _).mono ?_; rintro r w1 ⟨rfl, hb1⟩; replace hL := (by with_reducible first | exact hL.below hb1 | exact (hL.new _ _).below hb1 | exact ((hL.new _ _).new _ _).below hb1 | exact (((hL.new _ _).new _ _).new _ _).below hb1 | exact ((((hL.new _ _).new _ _).new _ _).new _ _).below hb1); (repeat rw [World.size_alloc] at hL); have hF := hL; (repeat unfold Loc at hF)))
    go_ret
    exact ⟨rfl, (by repeat (first | with_reducible exact Below.refl _ _ | with_reducible assumption | (with_reducible exact Env.below (by assumption)) | (with_reducible refine below_new ?_ _) | (with_reducible refine below_drew ?_) | (with_reducible refine below_drewN ?_ _) | (with_reducible refine below_put ?_ ?_ _; rotate_left 1; (dsimp only; omega)) | (with_reducible refine below_then ?_ (by assumption))))⟩
  · have b1 : decide ((120 : Int) < (n : Int)) = false := by simp; omega
    have b1' : decide (120 < n) = false := by simp [hg]
    have hck := fun W (h : Rd tenc 3 W W.heap.size A l) => rtcheck_any A c l W (by omega) h
    obtain ⟨z, hz⟩ : ∃ z, z = tck l := ⟨_, rfl⟩
    rw [← hz] at hck
    have hpu := fun W (h : Rd tenc 3 W W.heap.size A l) => push_any A c l ⟨s, e, k⟩ W (by omega) h
    rw [← hn'] at hck hpu ⊢
    have HCK := Lib.hid hck; have HN := Lib.hid hn'
    clear hck
    have hL : Loc w [] := trivial
    by_cases h0 : z = 0
    · have b2 : (z != 0) = false := by simp [h0]
      by_cases hok : tok ⟨s, e, k⟩
      · obtain ⟨hv, -⟩ := tck_zero (hz.symm.trans h0)
        rw [tpush_ok hv (by omega) hok] at hpu
        have hvP := thv_push hv hok
        have hP0 := push_head (x := ⟨s, e, k⟩) hv
        have hSS : sortL tlt t0 (l ++ [⟨s, e, k⟩]) = sortL tlt t0 (pushL tlt t0 l ⟨s, e, k⟩) := sortL_congr tsto t0 (pushL_perm tlt t0 l _).symm
        obtain ⟨P, hP⟩ : ∃ P, P = pushL tlt t0 l ⟨s, e, k⟩ := ⟨_, rfl⟩
        obtain ⟨np, hnp⟩ : ∃ np, n + 1 = np := ⟨_, rfl⟩
        have hPl : P.length = np := by rw [hP, pushL_length, ← hn', hnp]
        rw [← hP] at hpu hvP hP0 hSS
        have hcp := fun B d W (h : Rd tenc 3 W W.heap.size B P) => tcheck_any B d P W (by omega) h
        rw [tck_ok hvP (by omega), hPl] at hcp
        have hsp := fun B d W (h : Rd tenc 3 W W.heap.size B P) => rsorted_any B d P W (by omega) h
        have hsq := fun B d W (h : Rd tenc 3 W W.heap.size B (l ++ [⟨s, e, k⟩])) => rsorted_any B d (l ++ [⟨s, e, k⟩]) W (by rw [List.length_append]; simp; omega) h
        rw [hPl] at hsp
        rw [hSS, show (l ++ [(⟨s, e, k⟩ : Tm)]).length = np by rw [List.length_append, ← hn']; exact hnp] at hsq
        obtain ⟨S, hS⟩ : ∃ S, S = sortL tlt t0 P := ⟨_, rfl⟩
        rw [← hS] at hsp hsq
        have hspl : S.length = np := by rw [hS, sortL_length tsto, hPl]
        have b3 : decide (tok ⟨s, e, k⟩) = true := by simp [hok]
        have b4 : decide ((0 : Int) < (np : Int)) = true := by simp; omega
        have b4' : decide (0 < np) = true := by simp; omega
        have j1 : (0 : Int) < (np : Int) := by omega
        have j2 : 0 < np := by omega
        have HPU := Lib.hid hpu; have HCP := Lib.hid hcp; have HSP := Lib.hid hsp; have HSQ := Lib.hid hsq; have HPL := Lib.hid hPl; have HSPL := Lib.hid hspl; have HNP := Lib.hid hnp; have HP0 := Lib.hid hP0
        obtain ⟨i0, hi0, hz0, hz1, hz2⟩ := info_parts tm_info
        have hn120 : n ≤ 120 := by omega
        have hnp121 : np ≤ 121 := by omega
        clear hpu hcp hsp hsq hPl hspl hnp hP0 hSS hS hP hvP hv h0 hok hz hn'
        go_enter Try.func4, Try.ntmps4
        go_wp2_with fail
        go_at_call 21
        refine (alive18 _).mono ?_
        rintro r w1 ⟨rfl, hb1⟩
        replace hL := (by with_reducible first | exact hL.below hb1 | exact (hL.new _ _).below hb1 | exact ((hL.new _ _).new _ _).below hb1 | exact (((hL.new _ _).new _ _).new _ _).below hb1 | exact ((((hL.new _ _).new _ _).new _ _).new _ _).below hb1); (repeat rw [World.size_alloc] at hL); have hF := hL; (repeat unfold Loc at hF)
        go_wp2_with fail
        go_at_call 22
        refine (HCK.out _ (rd_grown lr (by repeat (first | with_reducible exact Below.refl _ _ | with_reducible assumption | (with_reducible exact Env.below (by assumption)) | (with_reducible refine below_new ?_ _) | (with_reducible refine below_drew ?_) | (with_reducible refine below_drewN ?_ _) | (with_reducible refine below_put ?_ ?_ _; rotate_left 1; (dsimp only; omega)) | (with_reducible refine below_then ?_ (by assumption)))))).mono ?_
        rintro r w2 ⟨rfl, hb2⟩
        replace hL := (by with_reducible first | exact hL.below hb2 | exact (hL.new _ _).below hb2 | exact ((hL.new _ _).new _ _).below hb2 | exact (((hL.new _ _).new _ _).new _ _).below hb2 | exact ((((hL.new _ _).new _ _).new _ _).new _ _).below hb2); (repeat rw [World.size_alloc] at hL); have hF := hL; (repeat unfold Loc at hF)
        go_wp2_with fail
        go_at_call 27
        refine (rtright_any ⟨s, e, k⟩ _).mono ?_
        rw [b3]
        rintro r w3 ⟨rfl, hb3⟩
        replace hL := (by with_reducible first | exact hL.below hb3 | exact (hL.new _ _).below hb3 | exact ((hL.new _ _).new _ _).below hb3 | exact (((hL.new _ _).new _ _).new _ _).below hb3 | exact ((((hL.new _ _).new _ _).new _ _).new _ _).below hb3); (repeat rw [World.size_alloc] at hL); have hF := hL; (repeat unfold Loc at hF)
        go_wp2_with fail
        go_at_call 28
        refine (HPU.out _ (rd_grown lr (by repeat (first | with_reducible exact Below.refl _ _ | with_reducible assumption | (with_reducible exact Env.below (by assumption)) | (with_reducible refine below_new ?_ _) | (with_reducible refine below_drew ?_) | (with_reducible refine below_drewN ?_ _) | (with_reducible refine below_put ?_ ?_ _; rotate_left 1; (dsimp only; omega)) | (with_reducible refine below_then ?_ (by assumption)))))).mono ?_
        rintro r w4 ⟨v4, rfl, own3, hb4⟩
        obtain ⟨g3, c3, rfl, -, hg3⟩ := World.ownsRow.form own3 (by rw [HPL.out]; omega)
        rw [HPL.out] at own3 ⊢
        replace hL := (by with_reducible first | exact hL.below hb4 | exact (hL.new _ _).below hb4 | exact ((hL.new _ _).new _ _).below hb4 | exact (((hL.new _ _).new _ _).new _ _).below hb4 | exact ((((hL.new _ _).new _ _).new _ _).new _ _).below hb4); (repeat rw [World.size_alloc] at hL); have hF := hL; (repeat unfold Loc at hF)
        have hB4 : Below w.heap.size w w4 := (by repeat (first | with_reducible exact Below.refl _ _ | with_reducible assumption | (with_reducible exact Env.below (by assumption)) | (with_reducible refine below_new ?_ _) | (with_reducible refine below_drew ?_) | (with_reducible refine below_drewN ?_ _) | (with_reducible refine below_put ?_ ?_ _; rotate_left 1; (dsimp only; omega)) | (with_reducible refine below_then ?_ (by assumption))))
        clear hF hb1 hb2 hb3 hb4
        go_upto_region 5 with fail
        go_cut [53] (fun cc wx => cc = .bool false ∧ Below w4.heap.size w4 wx)
        case first =>
          by_cases hn0 : 0 < n
          · obtain ⟨x0, hx0⟩ : ∃ x, l[0]? = some x := ⟨_, List.getElem?_eq_getElem (by rw [← HN.out]; exact hn0)⟩
            obtain ⟨b, off, rfl, hbB, -, -, -⟩ := tm_cells lr hx0
            have hflat := rd_flat tenc_len (rd_grown lr hB4)
            have hbB4 : b < w4.heap.size := Nat.lt_of_lt_of_le hbB hB4.size
            have HF := Lib.hid hflat
            clear hflat hx0 hbB
            obtain ⟨lE, hE, hR0⟩ := Env.abs (w0 := w4) (Below.refl _ _) hL
            (repeat unfold Loc at hR0)
            refine wp_region_held_drew (S := Env w4 lE) (by kernel_rfl) (by (first | assumption | exact Env.step (by assumption) (by assumption) | exact Env.old (by assumption) _ | exact Env.drew hE | exact hE | exact Env.drew (by assumption) | exact Env.drew (Env.old (by assumption) _) | ((repeat first | refine Env.far0 ?_ (by assumption) _ | refine Env.far1 ?_ (by assumption) _ | refine Env.farA ?_ (by assumption) _); assumption))) (fun hHeld => ?_)
            refine hTake 0 (by kernel_rfl) (by kernel_rfl) (by kernel_rfl) (by decide) (by assumption) ?_; (intro oi hoi; simp only [List.getElem?_toArray, List.getElem?_cons_zero] at hoi; obtain rfl := Option.some.inj hoi; clear hoi); refine ⟨rfl, ?_⟩; apply Exists.intro; refine ⟨?_, fun _ _ _ h => h, ?_⟩; (intro w hSw; (try dsimp only at hSw); go_simp; (try with_reducible rfl)); (try simp only [Act.put, List.setIfInBounds_toArray, List.set_cons_zero, List.set_cons_succ]); refine hTake 1 (by kernel_rfl) (by kernel_rfl) (by kernel_rfl) (by decide) (by assumption) ?_; (intro oi hoi; simp only [List.getElem?_toArray, List.getElem?_cons_succ, List.getElem?_cons_zero] at hoi; obtain rfl := Option.some.inj hoi; clear hoi); refine ⟨rfl, ?_⟩; apply Exists.intro; refine ⟨?_, fun _ _ _ h => h, ?_⟩; (intro w hSw; (try dsimp only at hSw); go_simp; (try with_reducible rfl)); (try simp only [Act.put, List.setIfInBounds_toArray, List.set_cons_zero, List.set_cons_succ]); refine hTake 2 (by kernel_rfl) (by kernel_rfl) (by kernel_rfl) (by decide) (by assumption) ?_; (intro oi hoi; simp only [List.getElem?_toArray, List.getElem?_cons_succ, List.getElem?_cons_zero] at hoi; obtain rfl := Option.some.inj hoi; clear hoi); refine ⟨rfl, ?_⟩; apply Exists.intro; refine ⟨?_, fun _ _ _ h => h, ?_⟩; (intro w hSw; (try dsimp only at hSw); go_simp; (try with_reducible rfl)); (try simp only [Act.put, List.setIfInBounds_toArray, List.set_cons_zero, List.set_cons_succ]); refine hTake 3 (by kernel_rfl) (by kernel_rfl) (by kernel_rfl) (by decide) (by assumption) ?_; (intro oi hoi; simp only [List.getElem?_toArray, List.getElem?_cons_succ, List.getElem?_cons_zero] at hoi; obtain rfl := Option.some.inj hoi; clear hoi); refine ⟨rfl, ?_⟩; apply Exists.intro; refine ⟨?_, fun _ _ _ h => h, ?_⟩; (intro w hSw; (try dsimp only at hSw); go_simp; (try with_reducible rfl)); (try simp only [Act.put, List.setIfInBounds_toArray, List.set_cons_zero, List.set_cons_succ])
            refine hOnly 4 (by kernel_rfl) (by decide) ?_; (intro oi hoi; simp only [List.getElem?_toArray, List.getElem?_cons_succ, List.getElem?_cons_zero] at hoi; obtain rfl := Option.some.inj hoi; clear hoi); intro K hK; go_simp
            refine (HCP.out _ _ _ (rd_grown (Own.rd tenc_len own3) hHeld.1)).mono ?_
            rintro r x0w ⟨rfl, hb⟩
            have hE' := Env.step hb hHeld
            clear hb
            refine hK.out _ _ hE' (fun hHeld => ?_)
            clear hK K hE'
            (try simp only [Act.put, List.setIfInBounds_toArray, List.set_cons_zero, List.set_cons_succ])
            refine hTake 5 (by kernel_rfl) (by kernel_rfl) (by kernel_rfl) (by decide) (by assumption) ?_; (intro oi hoi; simp only [List.getElem?_toArray, List.getElem?_cons_succ, List.getElem?_cons_zero] at hoi; obtain rfl := Option.some.inj hoi; clear hoi); refine ⟨rfl, ?_⟩; apply Exists.intro; refine ⟨?_, fun _ _ _ h => h, ?_⟩; (intro w hSw; (try dsimp only at hSw); go_simp; (try with_reducible rfl)); (try simp only [Act.put, List.setIfInBounds_toArray, List.set_cons_zero, List.set_cons_succ]); refine hTake 6 (by kernel_rfl) (by kernel_rfl) (by kernel_rfl) (by decide) (by assumption) ?_; (intro oi hoi; simp only [List.getElem?_toArray, List.getElem?_cons_succ, List.getElem?_cons_zero] at hoi; obtain rfl := Option.some.inj hoi; clear hoi); refine ⟨rfl, ?_⟩; apply Exists.intro; refine ⟨?_, fun _ _ _ h => h, ?_⟩; (intro w hSw; (try dsimp only at hSw); go_simp; (try with_reducible rfl)); (try simp only [Act.put, List.setIfInBounds_toArray, List.set_cons_zero, List.set_cons_succ]); refine hTake 7 (by kernel_rfl) (by kernel_rfl) (by kernel_rfl) (by decide) (by assumption) ?_; (intro oi hoi; simp only [List.getElem?_toArray, List.getElem?_cons_succ, List.getElem?_cons_zero] at hoi; obtain rfl := Option.some.inj hoi; clear hoi); refine ⟨rfl, ?_⟩; apply Exists.intro; refine ⟨?_, fun _ _ _ h => h, ?_⟩; (intro w hSw; (try dsimp only at hSw); go_simp; (try with_reducible rfl)); (try simp only [Act.put, List.setIfInBounds_toArray, List.set_cons_zero, List.set_cons_succ]); refine hTake 8 (by kernel_rfl) (by kernel_rfl) (by kernel_rfl) (by decide) (by assumption) ?_; (intro oi hoi; simp only [List.getElem?_toArray, List.getElem?_cons_succ, List.getElem?_cons_zero] at hoi; obtain rfl := Option.some.inj hoi; clear hoi); refine ⟨rfl, ?_⟩; apply Exists.intro; refine ⟨?_, fun _ _ _ h => h, ?_⟩; (intro w hSw; (try dsimp only at hSw); go_simp; (try with_reducible rfl)); (try simp only [Act.put, List.setIfInBounds_toArray, List.set_cons_zero, List.set_cons_succ])
            refine hTake 11 (by kernel_rfl) (by kernel_rfl) (by kernel_rfl) (by decide) (by assumption) ?_; (intro oi hoi; simp only [List.getElem?_toArray, List.getElem?_cons_succ, List.getElem?_cons_zero] at hoi; obtain rfl := Option.some.inj hoi; clear hoi); refine ⟨rfl, ?_⟩; apply Exists.intro; refine ⟨?_, fun _ _ _ h => h, ?_⟩; (intro w hSw; (try dsimp only at hSw); go_simp; (try with_reducible rfl)); (try simp only [Act.put, List.setIfInBounds_toArray, List.set_cons_zero, List.set_cons_succ])
            refine hTake 13 (by kernel_rfl) (by kernel_rfl) (by kernel_rfl) (by decide) (by assumption) ?_; (intro oi hoi; simp only [List.getElem?_toArray, List.getElem?_cons_succ, List.getElem?_cons_zero] at hoi; obtain rfl := Option.some.inj hoi; clear hoi); refine ⟨rfl, ?_⟩; apply Exists.intro; refine ⟨?_, fun _ _ _ h => h, ?_⟩; (intro w hSw; (try dsimp only at hSw); go_simp; (try with_reducible rfl)); (try simp only [Act.put, List.setIfInBounds_toArray, List.set_cons_zero, List.set_cons_succ])
            refine wpAnyH_ready (rs := [9, 10, 14]) (by kernel_rfl) (by simp) ?_
            refine hCons 9 (by decide) ?_ (hCons 10 (by decide) ?_ (hCons 14 (by decide) ?_ AllReadyH.nil))
            · skip
              (intro oi hoi; simp only [List.getElem?_toArray, List.getElem?_cons_succ, List.getElem?_cons_zero] at hoi; obtain rfl := Option.some.inj hoi; clear hoi); intro K hK
              go_simp
              refine (HSP.out _ _ _ (rd_grown (Own.rd tenc_len own3) hHeld.1)).mono ?_
              rintro r y1 ⟨v9, rfl, own9, hb⟩
              obtain ⟨A9, c9, rfl, -⟩ := own_shape_n own9 HSPL.out
              have hE' := Env.step hb hHeld
              clear hb
              refine hK.out _ _ hE' (fun hHeld => ?_)
              clear hK K hE'
              (try simp only [Act.put, List.setIfInBounds_toArray, List.set_cons_zero, List.set_cons_succ])
              refine wpAnyH_ready (rs := [10, 14]) (by kernel_rfl) (by simp) ?_
              refine hCons 10 (by decide) ?_ (hCons 14 (by decide) ?_ AllReadyH.nil)
              · skip
                (intro oi hoi; simp only [List.getElem?_toArray, List.getElem?_cons_succ, List.getElem?_cons_zero] at hoi; obtain rfl := Option.some.inj hoi; clear hoi); intro K hK
                go_simp
                have hb := (Below.refl y1.heap.size y1).alloc (Nat.le_refl _) (.cells #[] 34)
                have hE' := Env.step hb hHeld
                replace own9 := own9.below hb
                obtain ⟨y2, hY⟩ : ∃ y, y = y1.alloc (.cells #[] 34) := ⟨_, rfl⟩
                rw [show (y1.alloc (.cells #[] 34)) = y2 from hY.symm] at hb hE' own9 ⊢
                clear hY hb
                refine hK.out _ _ hE' (fun hHeld => ?_)
                clear hK K hE'
                (try simp only [Act.put, List.setIfInBounds_toArray, List.set_cons_zero, List.set_cons_succ])
                refine wpAnyH_ready (rs := [12, 14]) (by kernel_rfl) (by simp) ?_
                refine hCons 12 (by decide) ?_ (hCons 14 (by decide) ?_ AllReadyH.nil)
                · skip
                  (intro oi hoi; simp only [List.getElem?_toArray, List.getElem?_cons_succ, List.getElem?_cons_zero] at hoi; obtain rfl := Option.some.inj hoi; clear hoi); intro K hK
                  refine step_append_grow rfl (.tmp 44) (.tmp 45) 22 rfl 34 i0 (.agg #[.int .i64 0, .int .i64 0, .int .i64 0]) 3 24 Try.underlying22 hi0 hz0 hz1 hz2 rfl (by decide) tenc tenc_len _ n n c l rfl ⟨b, off, none⟩ rfl HN.out.symm rfl hn0 (fun j u hj => (Below.cell (p := (⟨b, off, none⟩ : Addr).add j) hHeld.1 (by unfold Addr.add; split <;> simpa using hbB4)).trans (HF.out j u hj)) (by unfold maxLen; omega) (by omega) ?_
                  intro g12 cap12 y3 own12 hb
                  have lt9 := fun k hk => (World.ownsRow.lt own9 k hk).2
                  have hE' := Env.step hb hHeld
                  replace own9 := own9.below hb
                  have hE12 := hHeld
                  clear hb
                  refine hK.out _ _ hE' (fun hHeld => ?_)
                  clear hK K hE'
                  (try simp only [Act.put, List.setIfInBounds_toArray, List.set_cons_zero, List.set_cons_succ])
                  refine hOnly 14 (by kernel_rfl) (by decide) ?_
                  (intro oi hoi; simp only [List.getElem?_toArray, List.getElem?_cons_succ, List.getElem?_cons_zero] at hoi; obtain rfl := Option.some.inj hoi; clear hoi); intro K hK
                  go_simp
                  have hb := (Below.refl y3.heap.size y3).alloc (Nat.le_refl _) (.cells #[.int .i64 s, .int .i64 e, .int .i64 k] 34)
                  have hE' := Env.step hb hHeld
                  have tm : (∀ j u, (([⟨s, e, k⟩] : List Tm).flatMap tenc)[j]? = some u → (y3.alloc (.cells #[.int .i64 s, .int .i64 e, .int .i64 k] 34)).cell? ((⟨y3.heap.size, 0, none⟩ : Addr).add j) = some u) ∧ y3.heap.size < (y3.alloc (.cells #[.int .i64 s, .int .i64 e, .int .i64 k] 34)).heap.size := ⟨tm_new y3 ⟨s, e, k⟩ 34 y3.heap.size rfl, by simp⟩
                  replace own9 := own9.below hb
                  replace own12 := own12.below hb
                  obtain ⟨y4, hY⟩ : ∃ y, y = y3.alloc (.cells #[.int .i64 s, .int .i64 e, .int .i64 k] 34) := ⟨_, rfl⟩
                  rw [show (y3.alloc (.cells #[.int .i64 s, .int .i64 e, .int .i64 k] 34)) = y4 from hY.symm] at hb hE' own9 tm own12 ⊢
                  clear hY hb
                  refine hK.out _ _ hE' (fun hHeld => ?_)
                  clear hK K hE'
                  (try simp only [Act.put, List.setIfInBounds_toArray, List.set_cons_zero, List.set_cons_succ])
                  refine hOnly 15 (by kernel_rfl) (by decide) ?_
                  (intro oi hoi; simp only [List.getElem?_toArray, List.getElem?_cons_succ, List.getElem?_cons_zero] at hoi; obtain rfl := Option.some.inj hoi; clear hoi); intro K hK
                  refine step_append_more rfl (.tmp 46) (.tmp 48) 22 rfl _ 34 i0 (.agg #[.int .i64 0, .int .i64 0, .int .i64 0]) 3 24 Try.underlying22 hi0 hz0 hz1 hz2 rfl (by decide) tenc tenc_len g12 cap12 n np l [⟨s, e, k⟩] rfl own12 HN.out.symm _ 1 1 rfl rfl (by omega) tm.1 (tenc_one _) HNP.out (by unfold maxLen; omega) (by omega) (by have := World.ownsRow.lt own12 g12 rfl; omega) ?_
                  intro g15 cap15 y5 own15 hgr hbb
                  have hE' := Env.kept hE12 hHeld hbb
                  have own9' := own9.grown hgr (.inr (fun e => absurd (lt9 g12 e) (Nat.not_lt.2 (World.ownsRow.lt own12 g12 rfl).1)))
                  clear own9 tm
                  refine hK.out _ _ hE' (fun hHeld => ?_)
                  clear hK K hE'
                  (try simp only [Act.put, List.setIfInBounds_toArray, List.set_cons_zero, List.set_cons_succ])
                  refine hOnly 16 (by kernel_rfl) (by decide) ?_; (intro oi hoi; simp only [List.getElem?_toArray, List.getElem?_cons_succ, List.getElem?_cons_zero] at hoi; obtain rfl := Option.some.inj hoi; clear hoi); intro K hK; go_simp
                  refine (HSQ.out _ _ _ (Own.rd tenc_len own15)).mono ?_
                  rintro r z5 ⟨v16, rfl, own16, hb⟩
                  obtain ⟨A16, c16, rfl, -⟩ := own_shape_n own16 HSPL.out
                  have hE' := Env.step hb hHeld
                  have own9 := own9'.below hb
                  clear hb own9' own15
                  refine hK.out _ _ hE' (fun hHeld => ?_)
                  clear hK K hE'
                  (try simp only [Act.put, List.setIfInBounds_toArray, List.set_cons_zero, List.set_cons_succ])
                  refine hOnly 17 (by kernel_rfl) (by decide) ?_; (intro oi hoi; simp only [List.getElem?_toArray, List.getElem?_cons_succ, List.getElem?_cons_zero] at hoi; obtain rfl := Option.some.inj hoi; clear hoi); intro K hK; go_simp
                  refine (tsame_yes _ _ _ _ np S _ (Own.rd tenc_len own9) (Own.rd tenc_len own16) (by rw [HSPL.out]; omega) HSPL.out).mono ?_
                  rintro r x5 ⟨rfl, hb⟩
                  have hE' := Env.step hb hHeld
                  clear hb own9 own16
                  refine hK.out _ _ hE' (fun hHeld => ?_)
                  clear hK K hE'
                  (try simp only [Act.put, List.setIfInBounds_toArray, List.set_cons_zero, List.set_cons_succ])
                  refine hTake 18 (by kernel_rfl) (by kernel_rfl) (by kernel_rfl) (by decide) (by assumption) ?_; (intro oi hoi; simp only [List.getElem?_toArray, List.getElem?_cons_succ, List.getElem?_cons_zero] at hoi; obtain rfl := Option.some.inj hoi; clear hoi); refine ⟨rfl, ?_⟩; apply Exists.intro; refine ⟨?_, fun _ _ _ h => h, ?_⟩; (intro w hSw; (try dsimp only at hSw); go_simp; (try with_reducible rfl)); (try simp only [Act.put, List.setIfInBounds_toArray, List.set_cons_zero, List.set_cons_succ]); refine hTake 19 (by kernel_rfl) (by kernel_rfl) (by kernel_rfl) (by decide) (by assumption) ?_; (intro oi hoi; simp only [List.getElem?_toArray, List.getElem?_cons_succ, List.getElem?_cons_zero] at hoi; obtain rfl := Option.some.inj hoi; clear hoi); refine ⟨rfl, ?_⟩; apply Exists.intro; refine ⟨?_, fun _ _ _ h => h, ?_⟩; (intro w hSw; (try dsimp only at hSw); go_simp; (try with_reducible rfl)); (try simp only [Act.put, List.setIfInBounds_toArray, List.set_cons_zero, List.set_cons_succ])
                  refine wpAnyH_done (by kernel_rfl) ?_ _
                  go_wp2_with fail
                  go_meet
                  exact ⟨rfl, hHeld.1⟩
                · skip
                  (intro oi hoi; simp only [List.getElem?_toArray, List.getElem?_cons_succ, List.getElem?_cons_zero] at hoi; obtain rfl := Option.some.inj hoi; clear hoi); intro K hK
                  go_simp
                  have hb := (Below.refl y2.heap.size y2).alloc (Nat.le_refl _) (.cells #[.int .i64 s, .int .i64 e, .int .i64 k] 34)
                  have hE' := Env.step hb hHeld
                  have tm : (∀ j u, (([⟨s, e, k⟩] : List Tm).flatMap tenc)[j]? = some u → (y2.alloc (.cells #[.int .i64 s, .int .i64 e, .int .i64 k] 34)).cell? ((⟨y2.heap.size, 0, none⟩ : Addr).add j) = some u) ∧ y2.heap.size < (y2.alloc (.cells #[.int .i64 s, .int .i64 e, .int .i64 k] 34)).heap.size := ⟨tm_new y2 ⟨s, e, k⟩ 34 y2.heap.size rfl, by simp⟩
                  replace own9 := own9.below hb
                  obtain ⟨y6, hY⟩ : ∃ y, y = y2.alloc (.cells #[.int .i64 s, .int .i64 e, .int .i64 k] 34) := ⟨_, rfl⟩
                  rw [show (y2.alloc (.cells #[.int .i64 s, .int .i64 e, .int .i64 k] 34)) = y6 from hY.symm] at hb hE' own9 tm ⊢
                  clear hY hb
                  refine hK.out _ _ hE' (fun hHeld => ?_)
                  clear hK K hE'
                  (try simp only [Act.put, List.setIfInBounds_toArray, List.set_cons_zero, List.set_cons_succ])
                  refine hOnly 12 (by kernel_rfl) (by decide) ?_
                  (intro oi hoi; simp only [List.getElem?_toArray, List.getElem?_cons_succ, List.getElem?_cons_zero] at hoi; obtain rfl := Option.some.inj hoi; clear hoi); intro K hK
                  refine step_append_grow rfl (.tmp 44) (.tmp 45) 22 rfl 34 i0 (.agg #[.int .i64 0, .int .i64 0, .int .i64 0]) 3 24 Try.underlying22 hi0 hz0 hz1 hz2 rfl (by decide) tenc tenc_len _ n n c l rfl ⟨b, off, none⟩ rfl HN.out.symm rfl hn0 (fun j u hj => (Below.cell (p := (⟨b, off, none⟩ : Addr).add j) hHeld.1 (by unfold Addr.add; split <;> simpa using hbB4)).trans (HF.out j u hj)) (by unfold maxLen; omega) (by omega) ?_
                  intro g12 cap12 y7 own12 hb
                  have lt9 := fun k hk => (World.ownsRow.lt own9 k hk).2
                  have hE' := Env.step hb hHeld
                  replace own9 := own9.below hb
                  replace tm := tm_below hb tm
                  have hE12 := hHeld
                  clear hb
                  refine hK.out _ _ hE' (fun hHeld => ?_)
                  clear hK K hE'
                  (try simp only [Act.put, List.setIfInBounds_toArray, List.set_cons_zero, List.set_cons_succ])
                  refine hOnly 15 (by kernel_rfl) (by decide) ?_
                  (intro oi hoi; simp only [List.getElem?_toArray, List.getElem?_cons_succ, List.getElem?_cons_zero] at hoi; obtain rfl := Option.some.inj hoi; clear hoi); intro K hK
                  refine step_append_more rfl (.tmp 46) (.tmp 48) 22 rfl _ 34 i0 (.agg #[.int .i64 0, .int .i64 0, .int .i64 0]) 3 24 Try.underlying22 hi0 hz0 hz1 hz2 rfl (by decide) tenc tenc_len g12 cap12 n np l [⟨s, e, k⟩] rfl own12 HN.out.symm _ 1 1 rfl rfl (by omega) tm.1 (tenc_one _) HNP.out (by unfold maxLen; omega) (by omega) (by have := World.ownsRow.lt own12 g12 rfl; omega) ?_
                  intro g15 cap15 y8 own15 hgr hbb
                  have hE' := Env.kept hE12 hHeld hbb
                  have own9' := own9.grown hgr (.inr (fun e => absurd (lt9 g12 e) (Nat.not_lt.2 (World.ownsRow.lt own12 g12 rfl).1)))
                  clear own9 tm
                  refine hK.out _ _ hE' (fun hHeld => ?_)
                  clear hK K hE'
                  (try simp only [Act.put, List.setIfInBounds_toArray, List.set_cons_zero, List.set_cons_succ])
                  refine hOnly 16 (by kernel_rfl) (by decide) ?_; (intro oi hoi; simp only [List.getElem?_toArray, List.getElem?_cons_succ, List.getElem?_cons_zero] at hoi; obtain rfl := Option.some.inj hoi; clear hoi); intro K hK; go_simp
                  refine (HSQ.out _ _ _ (Own.rd tenc_len own15)).mono ?_
                  rintro r z8 ⟨v16, rfl, own16, hb⟩
                  obtain ⟨A16, c16, rfl, -⟩ := own_shape_n own16 HSPL.out
                  have hE' := Env.step hb hHeld
                  have own9 := own9'.below hb
                  clear hb own9' own15
                  refine hK.out _ _ hE' (fun hHeld => ?_)
                  clear hK K hE'
                  (try simp only [Act.put, List.setIfInBounds_toArray, List.set_cons_zero, List.set_cons_succ])
                  refine hOnly 17 (by kernel_rfl) (by decide) ?_; (intro oi hoi; simp only [List.getElem?_toArray, List.getElem?_cons_succ, List.getElem?_cons_zero] at hoi; obtain rfl := Option.some.inj hoi; clear hoi); intro K hK; go_simp
                  refine (tsame_yes _ _ _ _ np S _ (Own.rd tenc_len own9) (Own.rd tenc_len own16) (by rw [HSPL.out]; omega) HSPL.out).mono ?_
                  rintro r x8 ⟨rfl, hb⟩
                  have hE' := Env.step hb hHeld
                  clear hb own9 own16
                  refine hK.out _ _ hE' (fun hHeld => ?_)
                  clear hK K hE'
                  (try simp only [Act.put, List.setIfInBounds_toArray, List.set_cons_zero, List.set_cons_succ])
                  refine hTake 18 (by kernel_rfl) (by kernel_rfl) (by kernel_rfl) (by decide) (by assumption) ?_; (intro oi hoi; simp only [List.getElem?_toArray, List.getElem?_cons_succ, List.getElem?_cons_zero] at hoi; obtain rfl := Option.some.inj hoi; clear hoi); refine ⟨rfl, ?_⟩; apply Exists.intro; refine ⟨?_, fun _ _ _ h => h, ?_⟩; (intro w hSw; (try dsimp only at hSw); go_simp; (try with_reducible rfl)); (try simp only [Act.put, List.setIfInBounds_toArray, List.set_cons_zero, List.set_cons_succ]); refine hTake 19 (by kernel_rfl) (by kernel_rfl) (by kernel_rfl) (by decide) (by assumption) ?_; (intro oi hoi; simp only [List.getElem?_toArray, List.getElem?_cons_succ, List.getElem?_cons_zero] at hoi; obtain rfl := Option.some.inj hoi; clear hoi); refine ⟨rfl, ?_⟩; apply Exists.intro; refine ⟨?_, fun _ _ _ h => h, ?_⟩; (intro w hSw; (try dsimp only at hSw); go_simp; (try with_reducible rfl)); (try simp only [Act.put, List.setIfInBounds_toArray, List.set_cons_zero, List.set_cons_succ])
                  refine wpAnyH_done (by kernel_rfl) ?_ _
                  go_wp2_with fail
                  go_meet
                  exact ⟨rfl, hHeld.1⟩
              · skip
                (intro oi hoi; simp only [List.getElem?_toArray, List.getElem?_cons_succ, List.getElem?_cons_zero] at hoi; obtain rfl := Option.some.inj hoi; clear hoi); intro K hK
                go_simp
                have hb := (Below.refl y1.heap.size y1).alloc (Nat.le_refl _) (.cells #[.int .i64 s, .int .i64 e, .int .i64 k] 34)
                have hE' := Env.step hb hHeld
                have tm : (∀ j u, (([⟨s, e, k⟩] : List Tm).flatMap tenc)[j]? = some u → (y1.alloc (.cells #[.int .i64 s, .int .i64 e, .int .i64 k] 34)).cell? ((⟨y1.heap.size, 0, none⟩ : Addr).add j) = some u) ∧ y1.heap.size < (y1.alloc (.cells #[.int .i64 s, .int .i64 e, .int .i64 k] 34)).heap.size := ⟨tm_new y1 ⟨s, e, k⟩ 34 y1.heap.size rfl, by simp⟩
                replace own9 := own9.below hb
                obtain ⟨y9, hY⟩ : ∃ y, y = y1.alloc (.cells #[.int .i64 s, .int .i64 e, .int .i64 k] 34) := ⟨_, rfl⟩
                rw [show (y1.alloc (.cells #[.int .i64 s, .int .i64 e, .int .i64 k] 34)) = y9 from hY.symm] at hb hE' own9 tm ⊢
                clear hY hb
                refine hK.out _ _ hE' (fun hHeld => ?_)
                clear hK K hE'
                (try simp only [Act.put, List.setIfInBounds_toArray, List.set_cons_zero, List.set_cons_succ])
                refine hOnly 10 (by kernel_rfl) (by decide) ?_
                (intro oi hoi; simp only [List.getElem?_toArray, List.getElem?_cons_succ, List.getElem?_cons_zero] at hoi; obtain rfl := Option.some.inj hoi; clear hoi); intro K hK
                go_simp
                have hb := (Below.refl y9.heap.size y9).alloc (Nat.le_refl _) (.cells #[] 34)
                have hE' := Env.step hb hHeld
                replace own9 := own9.below hb
                replace tm := tm_below hb tm
                obtain ⟨y10, hY⟩ : ∃ y, y = y9.alloc (.cells #[] 34) := ⟨_, rfl⟩
                rw [show (y9.alloc (.cells #[] 34)) = y10 from hY.symm] at hb hE' own9 tm ⊢
                clear hY hb
                refine hK.out _ _ hE' (fun hHeld => ?_)
                clear hK K hE'
                (try simp only [Act.put, List.setIfInBounds_toArray, List.set_cons_zero, List.set_cons_succ])
                refine hOnly 12 (by kernel_rfl) (by decide) ?_
                (intro oi hoi; simp only [List.getElem?_toArray, List.getElem?_cons_succ, List.getElem?_cons_zero] at hoi; obtain rfl := Option.some.inj hoi; clear hoi); intro K hK
                refine step_append_grow rfl (.tmp 44) (.tmp 45) 22 rfl 34 i0 (.agg #[.int .i64 0, .int .i64 0, .int .i64 0]) 3 24 Try.underlying22 hi0 hz0 hz1 hz2 rfl (by decide) tenc tenc_len _ n n c l rfl ⟨b, off, none⟩ rfl HN.out.symm rfl hn0 (fun j u hj => (Below.cell (p := (⟨b, off, none⟩ : Addr).add j) hHeld.1 (by unfold Addr.add; split <;> simpa using hbB4)).trans (HF.out j u hj)) (by unfold maxLen; omega) (by omega) ?_
                intro g12 cap12 y11 own12 hb
                have lt9 := fun k hk => (World.ownsRow.lt own9 k hk).2
                have hE' := Env.step hb hHeld
                replace own9 := own9.below hb
                replace tm := tm_below hb tm
                have hE12 := hHeld
                clear hb
                refine hK.out _ _ hE' (fun hHeld => ?_)
                clear hK K hE'
                (try simp only [Act.put, List.setIfInBounds_toArray, List.set_cons_zero, List.set_cons_succ])
                refine hOnly 15 (by kernel_rfl) (by decide) ?_
                (intro oi hoi; simp only [List.getElem?_toArray, List.getElem?_cons_succ, List.getElem?_cons_zero] at hoi; obtain rfl := Option.some.inj hoi; clear hoi); intro K hK
                refine step_append_more rfl (.tmp 46) (.tmp 48) 22 rfl _ 34 i0 (.agg #[.int .i64 0, .int .i64 0, .int .i64 0]) 3 24 Try.underlying22 hi0 hz0 hz1 hz2 rfl (by decide) tenc tenc_len g12 cap12 n np l [⟨s, e, k⟩] rfl own12 HN.out.symm _ 1 1 rfl rfl (by omega) tm.1 (tenc_one _) HNP.out (by unfold maxLen; omega) (by omega) (by have := World.ownsRow.lt own12 g12 rfl; omega) ?_
                intro g15 cap15 y12 own15 hgr hbb
                have hE' := Env.kept hE12 hHeld hbb
                have own9' := own9.grown hgr (.inr (fun e => absurd (lt9 g12 e) (Nat.not_lt.2 (World.ownsRow.lt own12 g12 rfl).1)))
                clear own9 tm
                refine hK.out _ _ hE' (fun hHeld => ?_)
                clear hK K hE'
                (try simp only [Act.put, List.setIfInBounds_toArray, List.set_cons_zero, List.set_cons_succ])
                refine hOnly 16 (by kernel_rfl) (by decide) ?_; (intro oi hoi; simp only [List.getElem?_toArray, List.getElem?_cons_succ, List.getElem?_cons_zero] at hoi; obtain rfl := Option.some.inj hoi; clear hoi); intro K hK; go_simp
                refine (HSQ.out _ _ _ (Own.rd tenc_len own15)).mono ?_
                rintro r z12 ⟨v16, rfl, own16, hb⟩
                obtain ⟨A16, c16, rfl, -⟩ := own_shape_n own16 HSPL.out
                have hE' := Env.step hb hHeld
                have own9 := own9'.below hb
                clear hb own9' own15
                refine hK.out _ _ hE' (fun hHeld => ?_)
                clear hK K hE'
                (try simp only [Act.put, List.setIfInBounds_toArray, List.set_cons_zero, List.set_cons_succ])
                refine hOnly 17 (by kernel_rfl) (by decide) ?_; (intro oi hoi; simp only [List.getElem?_toArray, List.getElem?_cons_succ, List.getElem?_cons_zero] at hoi; obtain rfl := Option.some.inj hoi; clear hoi); intro K hK; go_simp
                refine (tsame_yes _ _ _ _ np S _ (Own.rd tenc_len own9) (Own.rd tenc_len own16) (by rw [HSPL.out]; omega) HSPL.out).mono ?_
                rintro r x12 ⟨rfl, hb⟩
                have hE' := Env.step hb hHeld
                clear hb own9 own16
                refine hK.out _ _ hE' (fun hHeld => ?_)
                clear hK K hE'
                (try simp only [Act.put, List.setIfInBounds_toArray, List.set_cons_zero, List.set_cons_succ])
                refine hTake 18 (by kernel_rfl) (by kernel_rfl) (by kernel_rfl) (by decide) (by assumption) ?_; (intro oi hoi; simp only [List.getElem?_toArray, List.getElem?_cons_succ, List.getElem?_cons_zero] at hoi; obtain rfl := Option.some.inj hoi; clear hoi); refine ⟨rfl, ?_⟩; apply Exists.intro; refine ⟨?_, fun _ _ _ h => h, ?_⟩; (intro w hSw; (try dsimp only at hSw); go_simp; (try with_reducible rfl)); (try simp only [Act.put, List.setIfInBounds_toArray, List.set_cons_zero, List.set_cons_succ]); refine hTake 19 (by kernel_rfl) (by kernel_rfl) (by kernel_rfl) (by decide) (by assumption) ?_; (intro oi hoi; simp only [List.getElem?_toArray, List.getElem?_cons_succ, List.getElem?_cons_zero] at hoi; obtain rfl := Option.some.inj hoi; clear hoi); refine ⟨rfl, ?_⟩; apply Exists.intro; refine ⟨?_, fun _ _ _ h => h, ?_⟩; (intro w hSw; (try dsimp only at hSw); go_simp; (try with_reducible rfl)); (try simp only [Act.put, List.setIfInBounds_toArray, List.set_cons_zero, List.set_cons_succ])
                refine wpAnyH_done (by kernel_rfl) ?_ _
                go_wp2_with fail
                go_meet
                exact ⟨rfl, hHeld.1⟩
            · skip
              (intro oi hoi; simp only [List.getElem?_toArray, List.getElem?_cons_succ, List.getElem?_cons_zero] at hoi; obtain rfl := Option.some.inj hoi; clear hoi); intro K hK
              go_simp
              have hb := (Below.refl x0w.heap.size x0w).alloc (Nat.le_refl _) (.cells #[] 34)
              have hE' := Env.step hb hHeld
              obtain ⟨y13, hY⟩ : ∃ y, y = x0w.alloc (.cells #[] 34) := ⟨_, rfl⟩
              rw [show (x0w.alloc (.cells #[] 34)) = y13 from hY.symm] at hb hE' ⊢
              clear hY hb
              refine hK.out _ _ hE' (fun hHeld => ?_)
              clear hK K hE'
              (try simp only [Act.put, List.setIfInBounds_toArray, List.set_cons_zero, List.set_cons_succ])
              refine wpAnyH_ready (rs := [9, 14]) (by kernel_rfl) (by simp) ?_
              refine hCons 9 (by decide) ?_ (hCons 14 (by decide) ?_ AllReadyH.nil)
              · skip
                (intro oi hoi; simp only [List.getElem?_toArray, List.getElem?_cons_succ, List.getElem?_cons_zero] at hoi; obtain rfl := Option.some.inj hoi; clear hoi); intro K hK
                go_simp
                refine (HSP.out _ _ _ (rd_grown (Own.rd tenc_len own3) hHeld.1)).mono ?_
                rintro r y14 ⟨v9, rfl, own9, hb⟩
                obtain ⟨A9, c9, rfl, -⟩ := own_shape_n own9 HSPL.out
                have hE' := Env.step hb hHeld
                clear hb
                refine hK.out _ _ hE' (fun hHeld => ?_)
                clear hK K hE'
                (try simp only [Act.put, List.setIfInBounds_toArray, List.set_cons_zero, List.set_cons_succ])
                refine wpAnyH_ready (rs := [12, 14]) (by kernel_rfl) (by simp) ?_
                refine hCons 12 (by decide) ?_ (hCons 14 (by decide) ?_ AllReadyH.nil)
                · skip
                  (intro oi hoi; simp only [List.getElem?_toArray, List.getElem?_cons_succ, List.getElem?_cons_zero] at hoi; obtain rfl := Option.some.inj hoi; clear hoi); intro K hK
                  refine step_append_grow rfl (.tmp 44) (.tmp 45) 22 rfl 34 i0 (.agg #[.int .i64 0, .int .i64 0, .int .i64 0]) 3 24 Try.underlying22 hi0 hz0 hz1 hz2 rfl (by decide) tenc tenc_len _ n n c l rfl ⟨b, off, none⟩ rfl HN.out.symm rfl hn0 (fun j u hj => (Below.cell (p := (⟨b, off, none⟩ : Addr).add j) hHeld.1 (by unfold Addr.add; split <;> simpa using hbB4)).trans (HF.out j u hj)) (by unfold maxLen; omega) (by omega) ?_
                  intro g12 cap12 y15 own12 hb
                  have lt9 := fun k hk => (World.ownsRow.lt own9 k hk).2
                  have hE' := Env.step hb hHeld
                  replace own9 := own9.below hb
                  have hE12 := hHeld
                  clear hb
                  refine hK.out _ _ hE' (fun hHeld => ?_)
                  clear hK K hE'
                  (try simp only [Act.put, List.setIfInBounds_toArray, List.set_cons_zero, List.set_cons_succ])
                  refine hOnly 14 (by kernel_rfl) (by decide) ?_
                  (intro oi hoi; simp only [List.getElem?_toArray, List.getElem?_cons_succ, List.getElem?_cons_zero] at hoi; obtain rfl := Option.some.inj hoi; clear hoi); intro K hK
                  go_simp
                  have hb := (Below.refl y15.heap.size y15).alloc (Nat.le_refl _) (.cells #[.int .i64 s, .int .i64 e, .int .i64 k] 34)
                  have hE' := Env.step hb hHeld
                  have tm : (∀ j u, (([⟨s, e, k⟩] : List Tm).flatMap tenc)[j]? = some u → (y15.alloc (.cells #[.int .i64 s, .int .i64 e, .int .i64 k] 34)).cell? ((⟨y15.heap.size, 0, none⟩ : Addr).add j) = some u) ∧ y15.heap.size < (y15.alloc (.cells #[.int .i64 s, .int .i64 e, .int .i64 k] 34)).heap.size := ⟨tm_new y15 ⟨s, e, k⟩ 34 y15.heap.size rfl, by simp⟩
                  replace own9 := own9.below hb
                  replace own12 := own12.below hb
                  obtain ⟨y16, hY⟩ : ∃ y, y = y15.alloc (.cells #[.int .i64 s, .int .i64 e, .int .i64 k] 34) := ⟨_, rfl⟩
                  rw [show (y15.alloc (.cells #[.int .i64 s, .int .i64 e, .int .i64 k] 34)) = y16 from hY.symm] at hb hE' own9 tm own12 ⊢
                  clear hY hb
                  refine hK.out _ _ hE' (fun hHeld => ?_)
                  clear hK K hE'
                  (try simp only [Act.put, List.setIfInBounds_toArray, List.set_cons_zero, List.set_cons_succ])
                  refine hOnly 15 (by kernel_rfl) (by decide) ?_
                  (intro oi hoi; simp only [List.getElem?_toArray, List.getElem?_cons_succ, List.getElem?_cons_zero] at hoi; obtain rfl := Option.some.inj hoi; clear hoi); intro K hK
                  refine step_append_more rfl (.tmp 46) (.tmp 48) 22 rfl _ 34 i0 (.agg #[.int .i64 0, .int .i64 0, .int .i64 0]) 3 24 Try.underlying22 hi0 hz0 hz1 hz2 rfl (by decide) tenc tenc_len g12 cap12 n np l [⟨s, e, k⟩] rfl own12 HN.out.symm _ 1 1 rfl rfl (by omega) tm.1 (tenc_one _) HNP.out (by unfold maxLen; omega) (by omega) (by have := World.ownsRow.lt own12 g12 rfl; omega) ?_
                  intro g15 cap15 y17 own15 hgr hbb
                  have hE' := Env.kept hE12 hHeld hbb
                  have own9' := own9.grown hgr (.inr (fun e => absurd (lt9 g12 e) (Nat.not_lt.2 (World.ownsRow.lt own12 g12 rfl).1)))
                  clear own9 tm
                  refine hK.out _ _ hE' (fun hHeld => ?_)
                  clear hK K hE'
                  (try simp only [Act.put, List.setIfInBounds_toArray, List.set_cons_zero, List.set_cons_succ])
                  refine hOnly 16 (by kernel_rfl) (by decide) ?_; (intro oi hoi; simp only [List.getElem?_toArray, List.getElem?_cons_succ, List.getElem?_cons_zero] at hoi; obtain rfl := Option.some.inj hoi; clear hoi); intro K hK; go_simp
                  refine (HSQ.out _ _ _ (Own.rd tenc_len own15)).mono ?_
                  rintro r z17 ⟨v16, rfl, own16, hb⟩
                  obtain ⟨A16, c16, rfl, -⟩ := own_shape_n own16 HSPL.out
                  have hE' := Env.step hb hHeld
                  have own9 := own9'.below hb
                  clear hb own9' own15
                  refine hK.out _ _ hE' (fun hHeld => ?_)
                  clear hK K hE'
                  (try simp only [Act.put, List.setIfInBounds_toArray, List.set_cons_zero, List.set_cons_succ])
                  refine hOnly 17 (by kernel_rfl) (by decide) ?_; (intro oi hoi; simp only [List.getElem?_toArray, List.getElem?_cons_succ, List.getElem?_cons_zero] at hoi; obtain rfl := Option.some.inj hoi; clear hoi); intro K hK; go_simp
                  refine (tsame_yes _ _ _ _ np S _ (Own.rd tenc_len own9) (Own.rd tenc_len own16) (by rw [HSPL.out]; omega) HSPL.out).mono ?_
                  rintro r x17 ⟨rfl, hb⟩
                  have hE' := Env.step hb hHeld
                  clear hb own9 own16
                  refine hK.out _ _ hE' (fun hHeld => ?_)
                  clear hK K hE'
                  (try simp only [Act.put, List.setIfInBounds_toArray, List.set_cons_zero, List.set_cons_succ])
                  refine hTake 18 (by kernel_rfl) (by kernel_rfl) (by kernel_rfl) (by decide) (by assumption) ?_; (intro oi hoi; simp only [List.getElem?_toArray, List.getElem?_cons_succ, List.getElem?_cons_zero] at hoi; obtain rfl := Option.some.inj hoi; clear hoi); refine ⟨rfl, ?_⟩; apply Exists.intro; refine ⟨?_, fun _ _ _ h => h, ?_⟩; (intro w hSw; (try dsimp only at hSw); go_simp; (try with_reducible rfl)); (try simp only [Act.put, List.setIfInBounds_toArray, List.set_cons_zero, List.set_cons_succ]); refine hTake 19 (by kernel_rfl) (by kernel_rfl) (by kernel_rfl) (by decide) (by assumption) ?_; (intro oi hoi; simp only [List.getElem?_toArray, List.getElem?_cons_succ, List.getElem?_cons_zero] at hoi; obtain rfl := Option.some.inj hoi; clear hoi); refine ⟨rfl, ?_⟩; apply Exists.intro; refine ⟨?_, fun _ _ _ h => h, ?_⟩; (intro w hSw; (try dsimp only at hSw); go_simp; (try with_reducible rfl)); (try simp only [Act.put, List.setIfInBounds_toArray, List.set_cons_zero, List.set_cons_succ])
                  refine wpAnyH_done (by kernel_rfl) ?_ _
                  go_wp2_with fail
                  go_meet
                  exact ⟨rfl, hHeld.1⟩
                · skip
                  (intro oi hoi; simp only [List.getElem?_toArray, List.getElem?_cons_succ, List.getElem?_cons_zero] at hoi; obtain rfl := Option.some.inj hoi; clear hoi); intro K hK
                  go_simp
                  have hb := (Below.refl y14.heap.size y14).alloc (Nat.le_refl _) (.cells #[.int .i64 s, .int .i64 e, .int .i64 k] 34)
                  have hE' := Env.step hb hHeld
                  have tm : (∀ j u, (([⟨s, e, k⟩] : List Tm).flatMap tenc)[j]? = some u → (y14.alloc (.cells #[.int .i64 s, .int .i64 e, .int .i64 k] 34)).cell? ((⟨y14.heap.size, 0, none⟩ : Addr).add j) = some u) ∧ y14.heap.size < (y14.alloc (.cells #[.int .i64 s, .int .i64 e, .int .i64 k] 34)).heap.size := ⟨tm_new y14 ⟨s, e, k⟩ 34 y14.heap.size rfl, by simp⟩
                  replace own9 := own9.below hb
                  obtain ⟨y18, hY⟩ : ∃ y, y = y14.alloc (.cells #[.int .i64 s, .int .i64 e, .int .i64 k] 34) := ⟨_, rfl⟩
                  rw [show (y14.alloc (.cells #[.int .i64 s, .int .i64 e, .int .i64 k] 34)) = y18 from hY.symm] at hb hE' own9 tm ⊢
                  clear hY hb
                  refine hK.out _ _ hE' (fun hHeld => ?_)
                  clear hK K hE'
                  (try simp only [Act.put, List.setIfInBounds_toArray, List.set_cons_zero, List.set_cons_succ])
                  refine hOnly 12 (by kernel_rfl) (by decide) ?_
                  (intro oi hoi; simp only [List.getElem?_toArray, List.getElem?_cons_succ, List.getElem?_cons_zero] at hoi; obtain rfl := Option.some.inj hoi; clear hoi); intro K hK
                  refine step_append_grow rfl (.tmp 44) (.tmp 45) 22 rfl 34 i0 (.agg #[.int .i64 0, .int .i64 0, .int .i64 0]) 3 24 Try.underlying22 hi0 hz0 hz1 hz2 rfl (by decide) tenc tenc_len _ n n c l rfl ⟨b, off, none⟩ rfl HN.out.symm rfl hn0 (fun j u hj => (Below.cell (p := (⟨b, off, none⟩ : Addr).add j) hHeld.1 (by unfold Addr.add; split <;> simpa using hbB4)).trans (HF.out j u hj)) (by unfold maxLen; omega) (by omega) ?_
                  intro g12 cap12 y19 own12 hb
                  have lt9 := fun k hk => (World.ownsRow.lt own9 k hk).2
                  have hE' := Env.step hb hHeld
                  replace own9 := own9.below hb
                  replace tm := tm_below hb tm
                  have hE12 := hHeld
                  clear hb
                  refine hK.out _ _ hE' (fun hHeld => ?_)
                  clear hK K hE'
                  (try simp only [Act.put, List.setIfInBounds_toArray, List.set_cons_zero, List.set_cons_succ])
                  refine hOnly 15 (by kernel_rfl) (by decide) ?_
                  (intro oi hoi; simp only [List.getElem?_toArray, List.getElem?_cons_succ, List.getElem?_cons_zero] at hoi; obtain rfl := Option.some.inj hoi; clear hoi); intro K hK
                  refine step_append_more rfl (.tmp 46) (.tmp 48) 22 rfl _ 34 i0 (.agg #[.int .i64 0, .int .i64 0, .int .i64 0]) 3 24 Try.underlying22 hi0 hz0 hz1 hz2 rfl (by decide) tenc tenc_len g12 cap12 n np l [⟨s, e, k⟩] rfl own12 HN.out.symm _ 1 1 rfl rfl (by omega) tm.1 (tenc_one _) HNP.out (by unfold maxLen; omega) (by omega) (by have := World.ownsRow.lt own12 g12 rfl; omega) ?_
                  intro g15 cap15 y20 own15 hgr hbb
                  have hE' := Env.kept hE12 hHeld hbb
                  have own9' := own9.grown hgr (.inr (fun e => absurd (lt9 g12 e) (Nat.not_lt.2 (World.ownsRow.lt own12 g12 rfl).1)))
                  clear own9 tm
                  refine hK.out _ _ hE' (fun hHeld => ?_)
                  clear hK K hE'
                  (try simp only [Act.put, List.setIfInBounds_toArray, List.set_cons_zero, List.set_cons_succ])
                  refine hOnly 16 (by kernel_rfl) (by decide) ?_; (intro oi hoi; simp only [List.getElem?_toArray, List.getElem?_cons_succ, List.getElem?_cons_zero] at hoi; obtain rfl := Option.some.inj hoi; clear hoi); intro K hK; go_simp
                  refine (HSQ.out _ _ _ (Own.rd tenc_len own15)).mono ?_
                  rintro r z20 ⟨v16, rfl, own16, hb⟩
                  obtain ⟨A16, c16, rfl, -⟩ := own_shape_n own16 HSPL.out
                  have hE' := Env.step hb hHeld
                  have own9 := own9'.below hb
                  clear hb own9' own15
                  refine hK.out _ _ hE' (fun hHeld => ?_)
                  clear hK K hE'
                  (try simp only [Act.put, List.setIfInBounds_toArray, List.set_cons_zero, List.set_cons_succ])
                  refine hOnly 17 (by kernel_rfl) (by decide) ?_; (intro oi hoi; simp only [List.getElem?_toArray, List.getElem?_cons_succ, List.getElem?_cons_zero] at hoi; obtain rfl := Option.some.inj hoi; clear hoi); intro K hK; go_simp
                  refine (tsame_yes _ _ _ _ np S _ (Own.rd tenc_len own9) (Own.rd tenc_len own16) (by rw [HSPL.out]; omega) HSPL.out).mono ?_
                  rintro r x20 ⟨rfl, hb⟩
                  have hE' := Env.step hb hHeld
                  clear hb own9 own16
                  refine hK.out _ _ hE' (fun hHeld => ?_)
                  clear hK K hE'
                  (try simp only [Act.put, List.setIfInBounds_toArray, List.set_cons_zero, List.set_cons_succ])
                  refine hTake 18 (by kernel_rfl) (by kernel_rfl) (by kernel_rfl) (by decide) (by assumption) ?_; (intro oi hoi; simp only [List.getElem?_toArray, List.getElem?_cons_succ, List.getElem?_cons_zero] at hoi; obtain rfl := Option.some.inj hoi; clear hoi); refine ⟨rfl, ?_⟩; apply Exists.intro; refine ⟨?_, fun _ _ _ h => h, ?_⟩; (intro w hSw; (try dsimp only at hSw); go_simp; (try with_reducible rfl)); (try simp only [Act.put, List.setIfInBounds_toArray, List.set_cons_zero, List.set_cons_succ]); refine hTake 19 (by kernel_rfl) (by kernel_rfl) (by kernel_rfl) (by decide) (by assumption) ?_; (intro oi hoi; simp only [List.getElem?_toArray, List.getElem?_cons_succ, List.getElem?_cons_zero] at hoi; obtain rfl := Option.some.inj hoi; clear hoi); refine ⟨rfl, ?_⟩; apply Exists.intro; refine ⟨?_, fun _ _ _ h => h, ?_⟩; (intro w hSw; (try dsimp only at hSw); go_simp; (try with_reducible rfl)); (try simp only [Act.put, List.setIfInBounds_toArray, List.set_cons_zero, List.set_cons_succ])
                  refine wpAnyH_done (by kernel_rfl) ?_ _
                  go_wp2_with fail
                  go_meet
                  exact ⟨rfl, hHeld.1⟩
              · skip
                (intro oi hoi; simp only [List.getElem?_toArray, List.getElem?_cons_succ, List.getElem?_cons_zero] at hoi; obtain rfl := Option.some.inj hoi; clear hoi); intro K hK
                go_simp
                have hb := (Below.refl y13.heap.size y13).alloc (Nat.le_refl _) (.cells #[.int .i64 s, .int .i64 e, .int .i64 k] 34)
                have hE' := Env.step hb hHeld
                have tm : (∀ j u, (([⟨s, e, k⟩] : List Tm).flatMap tenc)[j]? = some u → (y13.alloc (.cells #[.int .i64 s, .int .i64 e, .int .i64 k] 34)).cell? ((⟨y13.heap.size, 0, none⟩ : Addr).add j) = some u) ∧ y13.heap.size < (y13.alloc (.cells #[.int .i64 s, .int .i64 e, .int .i64 k] 34)).heap.size := ⟨tm_new y13 ⟨s, e, k⟩ 34 y13.heap.size rfl, by simp⟩
                obtain ⟨y21, hY⟩ : ∃ y, y = y13.alloc (.cells #[.int .i64 s, .int .i64 e, .int .i64 k] 34) := ⟨_, rfl⟩
                rw [show (y13.alloc (.cells #[.int .i64 s, .int .i64 e, .int .i64 k] 34)) = y21 from hY.symm] at hb hE' tm ⊢
                clear hY hb
                refine hK.out _ _ hE' (fun hHeld => ?_)
                clear hK K hE'
                (try simp only [Act.put, List.setIfInBounds_toArray, List.set_cons_zero, List.set_cons_succ])
                refine hOnly 9 (by kernel_rfl) (by decide) ?_
                (intro oi hoi; simp only [List.getElem?_toArray, List.getElem?_cons_succ, List.getElem?_cons_zero] at hoi; obtain rfl := Option.some.inj hoi; clear hoi); intro K hK
                go_simp
                refine (HSP.out _ _ _ (rd_grown (Own.rd tenc_len own3) hHeld.1)).mono ?_
                rintro r y22 ⟨v9, rfl, own9, hb⟩
                obtain ⟨A9, c9, rfl, -⟩ := own_shape_n own9 HSPL.out
                have hE' := Env.step hb hHeld
                replace tm := tm_below hb tm
                clear hb
                refine hK.out _ _ hE' (fun hHeld => ?_)
                clear hK K hE'
                (try simp only [Act.put, List.setIfInBounds_toArray, List.set_cons_zero, List.set_cons_succ])
                refine hOnly 12 (by kernel_rfl) (by decide) ?_
                (intro oi hoi; simp only [List.getElem?_toArray, List.getElem?_cons_succ, List.getElem?_cons_zero] at hoi; obtain rfl := Option.some.inj hoi; clear hoi); intro K hK
                refine step_append_grow rfl (.tmp 44) (.tmp 45) 22 rfl 34 i0 (.agg #[.int .i64 0, .int .i64 0, .int .i64 0]) 3 24 Try.underlying22 hi0 hz0 hz1 hz2 rfl (by decide) tenc tenc_len _ n n c l rfl ⟨b, off, none⟩ rfl HN.out.symm rfl hn0 (fun j u hj => (Below.cell (p := (⟨b, off, none⟩ : Addr).add j) hHeld.1 (by unfold Addr.add; split <;> simpa using hbB4)).trans (HF.out j u hj)) (by unfold maxLen; omega) (by omega) ?_
                intro g12 cap12 y23 own12 hb
                have lt9 := fun k hk => (World.ownsRow.lt own9 k hk).2
                have hE' := Env.step hb hHeld
                replace own9 := own9.below hb
                replace tm := tm_below hb tm
                have hE12 := hHeld
                clear hb
                refine hK.out _ _ hE' (fun hHeld => ?_)
                clear hK K hE'
                (try simp only [Act.put, List.setIfInBounds_toArray, List.set_cons_zero, List.set_cons_succ])
                refine hOnly 15 (by kernel_rfl) (by decide) ?_
                (intro oi hoi; simp only [List.getElem?_toArray, List.getElem?_cons_succ, List.getElem?_cons_zero] at hoi; obtain rfl := Option.some.inj hoi; clear hoi); intro K hK
                refine step_append_more rfl (.tmp 46) (.tmp 48) 22 rfl _ 34 i0 (.agg #[.int .i64 0, .int .i64 0, .int .i64 0]) 3 24 Try.underlying22 hi0 hz0 hz1 hz2 rfl (by decide) tenc tenc_len g12 cap12 n np l [⟨s, e, k⟩] rfl own12 HN.out.symm _ 1 1 rfl rfl (by omega) tm.1 (tenc_one _) HNP.out (by unfold maxLen; omega) (by omega) (by have := World.ownsRow.lt own12 g12 rfl; omega) ?_
                intro g15 cap15 y24 own15 hgr hbb
                have hE' := Env.kept hE12 hHeld hbb
                have own9' := own9.grown hgr (.inr (fun e => absurd (lt9 g12 e) (Nat.not_lt.2 (World.ownsRow.lt own12 g12 rfl).1)))
                clear own9 tm
                refine hK.out _ _ hE' (fun hHeld => ?_)
                clear hK K hE'
                (try simp only [Act.put, List.setIfInBounds_toArray, List.set_cons_zero, List.set_cons_succ])
                refine hOnly 16 (by kernel_rfl) (by decide) ?_; (intro oi hoi; simp only [List.getElem?_toArray, List.getElem?_cons_succ, List.getElem?_cons_zero] at hoi; obtain rfl := Option.some.inj hoi; clear hoi); intro K hK; go_simp
                refine (HSQ.out _ _ _ (Own.rd tenc_len own15)).mono ?_
                rintro r z24 ⟨v16, rfl, own16, hb⟩
                obtain ⟨A16, c16, rfl, -⟩ := own_shape_n own16 HSPL.out
                have hE' := Env.step hb hHeld
                have own9 := own9'.below hb
                clear hb own9' own15
                refine hK.out _ _ hE' (fun hHeld => ?_)
                clear hK K hE'
                (try simp only [Act.put, List.setIfInBounds_toArray, List.set_cons_zero, List.set_cons_succ])
                refine hOnly 17 (by kernel_rfl) (by decide) ?_; (intro oi hoi; simp only [List.getElem?_toArray, List.getElem?_cons_succ, List.getElem?_cons_zero] at hoi; obtain rfl := Option.some.inj hoi; clear hoi); intro K hK; go_simp
                refine (tsame_yes _ _ _ _ np S _ (Own.rd tenc_len own9) (Own.rd tenc_len own16) (by rw [HSPL.out]; omega) HSPL.out).mono ?_
                rintro r x24 ⟨rfl, hb⟩
                have hE' := Env.step hb hHeld
                clear hb own9 own16
                refine hK.out _ _ hE' (fun hHeld => ?_)
                clear hK K hE'
                (try simp only [Act.put, List.setIfInBounds_toArray, List.set_cons_zero, List.set_cons_succ])
                refine hTake 18 (by kernel_rfl) (by kernel_rfl) (by kernel_rfl) (by decide) (by assumption) ?_; (intro oi hoi; simp only [List.getElem?_toArray, List.getElem?_cons_succ, List.getElem?_cons_zero] at hoi; obtain rfl := Option.some.inj hoi; clear hoi); refine ⟨rfl, ?_⟩; apply Exists.intro; refine ⟨?_, fun _ _ _ h => h, ?_⟩; (intro w hSw; (try dsimp only at hSw); go_simp; (try with_reducible rfl)); (try simp only [Act.put, List.setIfInBounds_toArray, List.set_cons_zero, List.set_cons_succ]); refine hTake 19 (by kernel_rfl) (by kernel_rfl) (by kernel_rfl) (by decide) (by assumption) ?_; (intro oi hoi; simp only [List.getElem?_toArray, List.getElem?_cons_succ, List.getElem?_cons_zero] at hoi; obtain rfl := Option.some.inj hoi; clear hoi); refine ⟨rfl, ?_⟩; apply Exists.intro; refine ⟨?_, fun _ _ _ h => h, ?_⟩; (intro w hSw; (try dsimp only at hSw); go_simp; (try with_reducible rfl)); (try simp only [Act.put, List.setIfInBounds_toArray, List.set_cons_zero, List.set_cons_succ])
                refine wpAnyH_done (by kernel_rfl) ?_ _
                go_wp2_with fail
                go_meet
                exact ⟨rfl, hHeld.1⟩
            · skip
              (intro oi hoi; simp only [List.getElem?_toArray, List.getElem?_cons_succ, List.getElem?_cons_zero] at hoi; obtain rfl := Option.some.inj hoi; clear hoi); intro K hK
              go_simp
              have hb := (Below.refl x0w.heap.size x0w).alloc (Nat.le_refl _) (.cells #[.int .i64 s, .int .i64 e, .int .i64 k] 34)
              have hE' := Env.step hb hHeld
              have tm : (∀ j u, (([⟨s, e, k⟩] : List Tm).flatMap tenc)[j]? = some u → (x0w.alloc (.cells #[.int .i64 s, .int .i64 e, .int .i64 k] 34)).cell? ((⟨x0w.heap.size, 0, none⟩ : Addr).add j) = some u) ∧ x0w.heap.size < (x0w.alloc (.cells #[.int .i64 s, .int .i64 e, .int .i64 k] 34)).heap.size := ⟨tm_new x0w ⟨s, e, k⟩ 34 x0w.heap.size rfl, by simp⟩
              obtain ⟨y25, hY⟩ : ∃ y, y = x0w.alloc (.cells #[.int .i64 s, .int .i64 e, .int .i64 k] 34) := ⟨_, rfl⟩
              rw [show (x0w.alloc (.cells #[.int .i64 s, .int .i64 e, .int .i64 k] 34)) = y25 from hY.symm] at hb hE' tm ⊢
              clear hY hb
              refine hK.out _ _ hE' (fun hHeld => ?_)
              clear hK K hE'
              (try simp only [Act.put, List.setIfInBounds_toArray, List.set_cons_zero, List.set_cons_succ])
              refine wpAnyH_ready (rs := [9, 10]) (by kernel_rfl) (by simp) ?_
              refine hCons 9 (by decide) ?_ (hCons 10 (by decide) ?_ AllReadyH.nil)
              · skip
                (intro oi hoi; simp only [List.getElem?_toArray, List.getElem?_cons_succ, List.getElem?_cons_zero] at hoi; obtain rfl := Option.some.inj hoi; clear hoi); intro K hK
                go_simp
                refine (HSP.out _ _ _ (rd_grown (Own.rd tenc_len own3) hHeld.1)).mono ?_
                rintro r y26 ⟨v9, rfl, own9, hb⟩
                obtain ⟨A9, c9, rfl, -⟩ := own_shape_n own9 HSPL.out
                have hE' := Env.step hb hHeld
                replace tm := tm_below hb tm
                clear hb
                refine hK.out _ _ hE' (fun hHeld => ?_)
                clear hK K hE'
                (try simp only [Act.put, List.setIfInBounds_toArray, List.set_cons_zero, List.set_cons_succ])
                refine hOnly 10 (by kernel_rfl) (by decide) ?_
                (intro oi hoi; simp only [List.getElem?_toArray, List.getElem?_cons_succ, List.getElem?_cons_zero] at hoi; obtain rfl := Option.some.inj hoi; clear hoi); intro K hK
                go_simp
                have hb := (Below.refl y26.heap.size y26).alloc (Nat.le_refl _) (.cells #[] 34)
                have hE' := Env.step hb hHeld
                replace own9 := own9.below hb
                replace tm := tm_below hb tm
                obtain ⟨y27, hY⟩ : ∃ y, y = y26.alloc (.cells #[] 34) := ⟨_, rfl⟩
                rw [show (y26.alloc (.cells #[] 34)) = y27 from hY.symm] at hb hE' own9 tm ⊢
                clear hY hb
                refine hK.out _ _ hE' (fun hHeld => ?_)
                clear hK K hE'
                (try simp only [Act.put, List.setIfInBounds_toArray, List.set_cons_zero, List.set_cons_succ])
                refine hOnly 12 (by kernel_rfl) (by decide) ?_
                (intro oi hoi; simp only [List.getElem?_toArray, List.getElem?_cons_succ, List.getElem?_cons_zero] at hoi; obtain rfl := Option.some.inj hoi; clear hoi); intro K hK
                refine step_append_grow rfl (.tmp 44) (.tmp 45) 22 rfl 34 i0 (.agg #[.int .i64 0, .int .i64 0, .int .i64 0]) 3 24 Try.underlying22 hi0 hz0 hz1 hz2 rfl (by decide) tenc tenc_len _ n n c l rfl ⟨b, off, none⟩ rfl HN.out.symm rfl hn0 (fun j u hj => (Below.cell (p := (⟨b, off, none⟩ : Addr).add j) hHeld.1 (by unfold Addr.add; split <;> simpa using hbB4)).trans (HF.out j u hj)) (by unfold maxLen; omega) (by omega) ?_
                intro g12 cap12 y28 own12 hb
                have lt9 := fun k hk => (World.ownsRow.lt own9 k hk).2
                have hE' := Env.step hb hHeld
                replace own9 := own9.below hb
                replace tm := tm_below hb tm
                have hE12 := hHeld
                clear hb
                refine hK.out _ _ hE' (fun hHeld => ?_)
                clear hK K hE'
                (try simp only [Act.put, List.setIfInBounds_toArray, List.set_cons_zero, List.set_cons_succ])
                refine hOnly 15 (by kernel_rfl) (by decide) ?_
                (intro oi hoi; simp only [List.getElem?_toArray, List.getElem?_cons_succ, List.getElem?_cons_zero] at hoi; obtain rfl := Option.some.inj hoi; clear hoi); intro K hK
                refine step_append_more rfl (.tmp 46) (.tmp 48) 22 rfl _ 34 i0 (.agg #[.int .i64 0, .int .i64 0, .int .i64 0]) 3 24 Try.underlying22 hi0 hz0 hz1 hz2 rfl (by decide) tenc tenc_len g12 cap12 n np l [⟨s, e, k⟩] rfl own12 HN.out.symm _ 1 1 rfl rfl (by omega) tm.1 (tenc_one _) HNP.out (by unfold maxLen; omega) (by omega) (by have := World.ownsRow.lt own12 g12 rfl; omega) ?_
                intro g15 cap15 y29 own15 hgr hbb
                have hE' := Env.kept hE12 hHeld hbb
                have own9' := own9.grown hgr (.inr (fun e => absurd (lt9 g12 e) (Nat.not_lt.2 (World.ownsRow.lt own12 g12 rfl).1)))
                clear own9 tm
                refine hK.out _ _ hE' (fun hHeld => ?_)
                clear hK K hE'
                (try simp only [Act.put, List.setIfInBounds_toArray, List.set_cons_zero, List.set_cons_succ])
                refine hOnly 16 (by kernel_rfl) (by decide) ?_; (intro oi hoi; simp only [List.getElem?_toArray, List.getElem?_cons_succ, List.getElem?_cons_zero] at hoi; obtain rfl := Option.some.inj hoi; clear hoi); intro K hK; go_simp
                refine (HSQ.out _ _ _ (Own.rd tenc_len own15)).mono ?_
                rintro r z29 ⟨v16, rfl, own16, hb⟩
                obtain ⟨A16, c16, rfl, -⟩ := own_shape_n own16 HSPL.out
                have hE' := Env.step hb hHeld
                have own9 := own9'.below hb
                clear hb own9' own15
                refine hK.out _ _ hE' (fun hHeld => ?_)
                clear hK K hE'
                (try simp only [Act.put, List.setIfInBounds_toArray, List.set_cons_zero, List.set_cons_succ])
                refine hOnly 17 (by kernel_rfl) (by decide) ?_; (intro oi hoi; simp only [List.getElem?_toArray, List.getElem?_cons_succ, List.getElem?_cons_zero] at hoi; obtain rfl := Option.some.inj hoi; clear hoi); intro K hK; go_simp
                refine (tsame_yes _ _ _ _ np S _ (Own.rd tenc_len own9) (Own.rd tenc_len own16) (by rw [HSPL.out]; omega) HSPL.out).mono ?_
                rintro r x29 ⟨rfl, hb⟩
                have hE' := Env.step hb hHeld
                clear hb own9 own16
                refine hK.out _ _ hE' (fun hHeld => ?_)
                clear hK K hE'
                (try simp only [Act.put, List.setIfInBounds_toArray, List.set_cons_zero, List.set_cons_succ])
                refine hTake 18 (by kernel_rfl) (by kernel_rfl) (by kernel_rfl) (by decide) (by assumption) ?_; (intro oi hoi; simp only [List.getElem?_toArray, List.getElem?_cons_succ, List.getElem?_cons_zero] at hoi; obtain rfl := Option.some.inj hoi; clear hoi); refine ⟨rfl, ?_⟩; apply Exists.intro; refine ⟨?_, fun _ _ _ h => h, ?_⟩; (intro w hSw; (try dsimp only at hSw); go_simp; (try with_reducible rfl)); (try simp only [Act.put, List.setIfInBounds_toArray, List.set_cons_zero, List.set_cons_succ]); refine hTake 19 (by kernel_rfl) (by kernel_rfl) (by kernel_rfl) (by decide) (by assumption) ?_; (intro oi hoi; simp only [List.getElem?_toArray, List.getElem?_cons_succ, List.getElem?_cons_zero] at hoi; obtain rfl := Option.some.inj hoi; clear hoi); refine ⟨rfl, ?_⟩; apply Exists.intro; refine ⟨?_, fun _ _ _ h => h, ?_⟩; (intro w hSw; (try dsimp only at hSw); go_simp; (try with_reducible rfl)); (try simp only [Act.put, List.setIfInBounds_toArray, List.set_cons_zero, List.set_cons_succ])
                refine wpAnyH_done (by kernel_rfl) ?_ _
                go_wp2_with fail
                go_meet
                exact ⟨rfl, hHeld.1⟩
              · skip
                (intro oi hoi; simp only [List.getElem?_toArray, List.getElem?_cons_succ, List.getElem?_cons_zero] at hoi; obtain rfl := Option.some.inj hoi; clear hoi); intro K hK
                go_simp
                have hb := (Below.refl y25.heap.size y25).alloc (Nat.le_refl _) (.cells #[] 34)
                have hE' := Env.step hb hHeld
                replace tm := tm_below hb tm
                obtain ⟨y30, hY⟩ : ∃ y, y = y25.alloc (.cells #[] 34) := ⟨_, rfl⟩
                rw [show (y25.alloc (.cells #[] 34)) = y30 from hY.symm] at hb hE' tm ⊢
                clear hY hb
                refine hK.out _ _ hE' (fun hHeld => ?_)
                clear hK K hE'
                (try simp only [Act.put, List.setIfInBounds_toArray, List.set_cons_zero, List.set_cons_succ])
                refine hOnly 9 (by kernel_rfl) (by decide) ?_
                (intro oi hoi; simp only [List.getElem?_toArray, List.getElem?_cons_succ, List.getElem?_cons_zero] at hoi; obtain rfl := Option.some.inj hoi; clear hoi); intro K hK
                go_simp
                refine (HSP.out _ _ _ (rd_grown (Own.rd tenc_len own3) hHeld.1)).mono ?_
                rintro r y31 ⟨v9, rfl, own9, hb⟩
                obtain ⟨A9, c9, rfl, -⟩ := own_shape_n own9 HSPL.out
                have hE' := Env.step hb hHeld
                replace tm := tm_below hb tm
                clear hb
                refine hK.out _ _ hE' (fun hHeld => ?_)
                clear hK K hE'
                (try simp only [Act.put, List.setIfInBounds_toArray, List.set_cons_zero, List.set_cons_succ])
                refine hOnly 12 (by kernel_rfl) (by decide) ?_
                (intro oi hoi; simp only [List.getElem?_toArray, List.getElem?_cons_succ, List.getElem?_cons_zero] at hoi; obtain rfl := Option.some.inj hoi; clear hoi); intro K hK
                refine step_append_grow rfl (.tmp 44) (.tmp 45) 22 rfl 34 i0 (.agg #[.int .i64 0, .int .i64 0, .int .i64 0]) 3 24 Try.underlying22 hi0 hz0 hz1 hz2 rfl (by decide) tenc tenc_len _ n n c l rfl ⟨b, off, none⟩ rfl HN.out.symm rfl hn0 (fun j u hj => (Below.cell (p := (⟨b, off, none⟩ : Addr).add j) hHeld.1 (by unfold Addr.add; split <;> simpa using hbB4)).trans (HF.out j u hj)) (by unfold maxLen; omega) (by omega) ?_
                intro g12 cap12 y32 own12 hb
                have lt9 := fun k hk => (World.ownsRow.lt own9 k hk).2
                have hE' := Env.step hb hHeld
                replace own9 := own9.below hb
                replace tm := tm_below hb tm
                have hE12 := hHeld
                clear hb
                refine hK.out _ _ hE' (fun hHeld => ?_)
                clear hK K hE'
                (try simp only [Act.put, List.setIfInBounds_toArray, List.set_cons_zero, List.set_cons_succ])
                refine hOnly 15 (by kernel_rfl) (by decide) ?_
                (intro oi hoi; simp only [List.getElem?_toArray, List.getElem?_cons_succ, List.getElem?_cons_zero] at hoi; obtain rfl := Option.some.inj hoi; clear hoi); intro K hK
                refine step_append_more rfl (.tmp 46) (.tmp 48) 22 rfl _ 34 i0 (.agg #[.int .i64 0, .int .i64 0, .int .i64 0]) 3 24 Try.underlying22 hi0 hz0 hz1 hz2 rfl (by decide) tenc tenc_len g12 cap12 n np l [⟨s, e, k⟩] rfl own12 HN.out.symm _ 1 1 rfl rfl (by omega) tm.1 (tenc_one _) HNP.out (by unfold maxLen; omega) (by omega) (by have := World.ownsRow.lt own12 g12 rfl; omega) ?_
                intro g15 cap15 y33 own15 hgr hbb
                have hE' := Env.kept hE12 hHeld hbb
                have own9' := own9.grown hgr (.inr (fun e => absurd (lt9 g12 e) (Nat.not_lt.2 (World.ownsRow.lt own12 g12 rfl).1)))
                clear own9 tm
                refine hK.out _ _ hE' (fun hHeld => ?_)
                clear hK K hE'
                (try simp only [Act.put, List.setIfInBounds_toArray, List.set_cons_zero, List.set_cons_succ])
                refine hOnly 16 (by kernel_rfl) (by decide) ?_; (intro oi hoi; simp only [List.getElem?_toArray, List.getElem?_cons_succ, List.getElem?_cons_zero] at hoi; obtain rfl := Option.some.inj hoi; clear hoi); intro K hK; go_simp
                refine (HSQ.out _ _ _ (Own.rd tenc_len own15)).mono ?_
                rintro r z33 ⟨v16, rfl, own16, hb⟩
                obtain ⟨A16, c16, rfl, -⟩ := own_shape_n own16 HSPL.out
                have hE' := Env.step hb hHeld
                have own9 := own9'.below hb
                clear hb own9' own15
                refine hK.out _ _ hE' (fun hHeld => ?_)
                clear hK K hE'
                (try simp only [Act.put, List.setIfInBounds_toArray, List.set_cons_zero, List.set_cons_succ])
                refine hOnly 17 (by kernel_rfl) (by decide) ?_; (intro oi hoi; simp only [List.getElem?_toArray, List.getElem?_cons_succ, List.getElem?_cons_zero] at hoi; obtain rfl := Option.some.inj hoi; clear hoi); intro K hK; go_simp
                refine (tsame_yes _ _ _ _ np S _ (Own.rd tenc_len own9) (Own.rd tenc_len own16) (by rw [HSPL.out]; omega) HSPL.out).mono ?_
                rintro r x33 ⟨rfl, hb⟩
                have hE' := Env.step hb hHeld
                clear hb own9 own16
                refine hK.out _ _ hE' (fun hHeld => ?_)
                clear hK K hE'
                (try simp only [Act.put, List.setIfInBounds_toArray, List.set_cons_zero, List.set_cons_succ])
                refine hTake 18 (by kernel_rfl) (by kernel_rfl) (by kernel_rfl) (by decide) (by assumption) ?_; (intro oi hoi; simp only [List.getElem?_toArray, List.getElem?_cons_succ, List.getElem?_cons_zero] at hoi; obtain rfl := Option.some.inj hoi; clear hoi); refine ⟨rfl, ?_⟩; apply Exists.intro; refine ⟨?_, fun _ _ _ h => h, ?_⟩; (intro w hSw; (try dsimp only at hSw); go_simp; (try with_reducible rfl)); (try simp only [Act.put, List.setIfInBounds_toArray, List.set_cons_zero, List.set_cons_succ]); refine hTake 19 (by kernel_rfl) (by kernel_rfl) (by kernel_rfl) (by decide) (by assumption) ?_; (intro oi hoi; simp only [List.getElem?_toArray, List.getElem?_cons_succ, List.getElem?_cons_zero] at hoi; obtain rfl := Option.some.inj hoi; clear hoi); refine ⟨rfl, ?_⟩; apply Exists.intro; refine ⟨?_, fun _ _ _ h => h, ?_⟩; (intro w hSw; (try dsimp only at hSw); go_simp; (try with_reducible rfl)); (try simp only [Act.put, List.setIfInBounds_toArray, List.set_cons_zero, List.set_cons_succ])
                refine wpAnyH_done (by kernel_rfl) ?_ _
                go_wp2_with fail
                go_meet
                exact ⟨rfl, hHeld.1⟩
          · obtain rfl : n = 0 := by omega
            have HL0 := Lib.hid (show [(⟨s, e, k⟩ : Tm)] = l ++ [⟨s, e, k⟩] by rw [List.eq_nil_of_length_eq_zero HN.out.symm]; rfl)
            obtain ⟨lE, hE, hR0⟩ := Env.abs (w0 := w4) (Below.refl _ _) hL
            (repeat unfold Loc at hR0)
            refine wp_region_held_drew (S := Env w4 lE) (by kernel_rfl) (by (first | assumption | exact Env.step (by assumption) (by assumption) | exact Env.old (by assumption) _ | exact Env.drew hE | exact hE | exact Env.drew (by assumption) | exact Env.drew (Env.old (by assumption) _) | ((repeat first | refine Env.far0 ?_ (by assumption) _ | refine Env.far1 ?_ (by assumption) _ | refine Env.farA ?_ (by assumption) _); assumption))) (fun hHeld => ?_)
            refine hTake 0 (by kernel_rfl) (by kernel_rfl) (by kernel_rfl) (by decide) (by assumption) ?_; (intro oi hoi; simp only [List.getElem?_toArray, List.getElem?_cons_zero] at hoi; obtain rfl := Option.some.inj hoi; clear hoi); refine ⟨rfl, ?_⟩; apply Exists.intro; refine ⟨?_, fun _ _ _ h => h, ?_⟩; (intro w hSw; (try dsimp only at hSw); go_simp; (try with_reducible rfl)); (try simp only [Act.put, List.setIfInBounds_toArray, List.set_cons_zero, List.set_cons_succ]); refine hTake 1 (by kernel_rfl) (by kernel_rfl) (by kernel_rfl) (by decide) (by assumption) ?_; (intro oi hoi; simp only [List.getElem?_toArray, List.getElem?_cons_succ, List.getElem?_cons_zero] at hoi; obtain rfl := Option.some.inj hoi; clear hoi); refine ⟨rfl, ?_⟩; apply Exists.intro; refine ⟨?_, fun _ _ _ h => h, ?_⟩; (intro w hSw; (try dsimp only at hSw); go_simp; (try with_reducible rfl)); (try simp only [Act.put, List.setIfInBounds_toArray, List.set_cons_zero, List.set_cons_succ]); refine hTake 2 (by kernel_rfl) (by kernel_rfl) (by kernel_rfl) (by decide) (by assumption) ?_; (intro oi hoi; simp only [List.getElem?_toArray, List.getElem?_cons_succ, List.getElem?_cons_zero] at hoi; obtain rfl := Option.some.inj hoi; clear hoi); refine ⟨rfl, ?_⟩; apply Exists.intro; refine ⟨?_, fun _ _ _ h => h, ?_⟩; (intro w hSw; (try dsimp only at hSw); go_simp; (try with_reducible rfl)); (try simp only [Act.put, List.setIfInBounds_toArray, List.set_cons_zero, List.set_cons_succ]); refine hTake 3 (by kernel_rfl) (by kernel_rfl) (by kernel_rfl) (by decide) (by assumption) ?_; (intro oi hoi; simp only [List.getElem?_toArray, List.getElem?_cons_succ, List.getElem?_cons_zero] at hoi; obtain rfl := Option.some.inj hoi; clear hoi); refine ⟨rfl, ?_⟩; apply Exists.intro; refine ⟨?_, fun _ _ _ h => h, ?_⟩; (intro w hSw; (try dsimp only at hSw); go_simp; (try with_reducible rfl)); (try simp only [Act.put, List.setIfInBounds_toArray, List.set_cons_zero, List.set_cons_succ])
            refine hOnly 4 (by kernel_rfl) (by decide) ?_; (intro oi hoi; simp only [List.getElem?_toArray, List.getElem?_cons_succ, List.getElem?_cons_zero] at hoi; obtain rfl := Option.some.inj hoi; clear hoi); intro K hK; go_simp
            refine (HCP.out _ _ _ (rd_grown (Own.rd tenc_len own3) hHeld.1)).mono ?_
            rintro r x0w ⟨rfl, hb⟩
            have hE' := Env.step hb hHeld
            clear hb
            refine hK.out _ _ hE' (fun hHeld => ?_)
            clear hK K hE'
            (try simp only [Act.put, List.setIfInBounds_toArray, List.set_cons_zero, List.set_cons_succ])
            refine hTake 5 (by kernel_rfl) (by kernel_rfl) (by kernel_rfl) (by decide) (by assumption) ?_; (intro oi hoi; simp only [List.getElem?_toArray, List.getElem?_cons_succ, List.getElem?_cons_zero] at hoi; obtain rfl := Option.some.inj hoi; clear hoi); refine ⟨rfl, ?_⟩; apply Exists.intro; refine ⟨?_, fun _ _ _ h => h, ?_⟩; (intro w hSw; (try dsimp only at hSw); go_simp; (try with_reducible rfl)); (try simp only [Act.put, List.setIfInBounds_toArray, List.set_cons_zero, List.set_cons_succ]); refine hTake 6 (by kernel_rfl) (by kernel_rfl) (by kernel_rfl) (by decide) (by assumption) ?_; (intro oi hoi; simp only [List.getElem?_toArray, List.getElem?_cons_succ, List.getElem?_cons_zero] at hoi; obtain rfl := Option.some.inj hoi; clear hoi); refine ⟨rfl, ?_⟩; apply Exists.intro; refine ⟨?_, fun _ _ _ h => h, ?_⟩; (intro w hSw; (try dsimp only at hSw); go_simp; (try with_reducible rfl)); (try simp only [Act.put, List.setIfInBounds_toArray, List.set_cons_zero, List.set_cons_succ]); refine hTake 7 (by kernel_rfl) (by kernel_rfl) (by kernel_rfl) (by decide) (by assumption) ?_; (intro oi hoi; simp only [List.getElem?_toArray, List.getElem?_cons_succ, List.getElem?_cons_zero] at hoi; obtain rfl := Option.some.inj hoi; clear hoi); refine ⟨rfl, ?_⟩; apply Exists.intro; refine ⟨?_, fun _ _ _ h => h, ?_⟩; (intro w hSw; (try dsimp only at hSw); go_simp; (try with_reducible rfl)); (try simp only [Act.put, List.setIfInBounds_toArray, List.set_cons_zero, List.set_cons_succ]); refine hTake 8 (by kernel_rfl) (by kernel_rfl) (by kernel_rfl) (by decide) (by assumption) ?_; (intro oi hoi; simp only [List.getElem?_toArray, List.getElem?_cons_succ, List.getElem?_cons_zero] at hoi; obtain rfl := Option.some.inj hoi; clear hoi); refine ⟨rfl, ?_⟩; apply Exists.intro; refine ⟨?_, fun _ _ _ h => h, ?_⟩; (intro w hSw; (try dsimp only at hSw); go_simp; (try with_reducible rfl)); (try simp only [Act.put, List.setIfInBounds_toArray, List.set_cons_zero, List.set_cons_succ])
            refine hTake 11 (by kernel_rfl) (by kernel_rfl) (by kernel_rfl) (by decide) (by assumption) ?_; (intro oi hoi; simp only [List.getElem?_toArray, List.getElem?_cons_succ, List.getElem?_cons_zero] at hoi; obtain rfl := Option.some.inj hoi; clear hoi); refine ⟨rfl, ?_⟩; apply Exists.intro; refine ⟨?_, fun _ _ _ h => h, ?_⟩; (intro w hSw; (try dsimp only at hSw); go_simp; (try with_reducible rfl)); (try simp only [Act.put, List.setIfInBounds_toArray, List.set_cons_zero, List.set_cons_succ])
            refine hTake 13 (by kernel_rfl) (by kernel_rfl) (by kernel_rfl) (by decide) (by assumption) ?_; (intro oi hoi; simp only [List.getElem?_toArray, List.getElem?_cons_succ, List.getElem?_cons_zero] at hoi; obtain rfl := Option.some.inj hoi; clear hoi); refine ⟨rfl, ?_⟩; apply Exists.intro; refine ⟨?_, fun _ _ _ h => h, ?_⟩; (intro w hSw; (try dsimp only at hSw); go_simp; (try with_reducible rfl)); (try simp only [Act.put, List.setIfInBounds_toArray, List.set_cons_zero, List.set_cons_succ])
            refine wpAnyH_ready (rs := [9, 10, 14]) (by kernel_rfl) (by simp) ?_
            refine hCons 9 (by decide) ?_ (hCons 10 (by decide) ?_ (hCons 14 (by decide) ?_ AllReadyH.nil))
            · skip
              (intro oi hoi; simp only [List.getElem?_toArray, List.getElem?_cons_succ, List.getElem?_cons_zero] at hoi; obtain rfl := Option.some.inj hoi; clear hoi); intro K hK
              go_simp
              refine (HSP.out _ _ _ (rd_grown (Own.rd tenc_len own3) hHeld.1)).mono ?_
              rintro r y34 ⟨v9, rfl, own9, hb⟩
              obtain ⟨A9, c9, rfl, -⟩ := own_shape_n own9 HSPL.out
              have hE' := Env.step hb hHeld
              clear hb
              refine hK.out _ _ hE' (fun hHeld => ?_)
              clear hK K hE'
              (try simp only [Act.put, List.setIfInBounds_toArray, List.set_cons_zero, List.set_cons_succ])
              refine wpAnyH_ready (rs := [10, 14]) (by kernel_rfl) (by simp) ?_
              refine hCons 10 (by decide) ?_ (hCons 14 (by decide) ?_ AllReadyH.nil)
              · skip
                (intro oi hoi; simp only [List.getElem?_toArray, List.getElem?_cons_succ, List.getElem?_cons_zero] at hoi; obtain rfl := Option.some.inj hoi; clear hoi); intro K hK
                go_simp
                have hb := (Below.refl y34.heap.size y34).alloc (Nat.le_refl _) (.cells #[] 34)
                have hE' := Env.step hb hHeld
                replace own9 := own9.below hb
                obtain ⟨y35, hY⟩ : ∃ y, y = y34.alloc (.cells #[] 34) := ⟨_, rfl⟩
                rw [show (y34.alloc (.cells #[] 34)) = y35 from hY.symm] at hb hE' own9 ⊢
                clear hY hb
                refine hK.out _ _ hE' (fun hHeld => ?_)
                clear hK K hE'
                (try simp only [Act.put, List.setIfInBounds_toArray, List.set_cons_zero, List.set_cons_succ])
                refine wpAnyH_ready (rs := [12, 14]) (by kernel_rfl) (by simp) ?_
                refine hCons 12 (by decide) ?_ (hCons 14 (by decide) ?_ AllReadyH.nil)
                · skip
                  (intro oi hoi; simp only [List.getElem?_toArray, List.getElem?_cons_succ, List.getElem?_cons_zero] at hoi; obtain rfl := Option.some.inj hoi; clear hoi); intro K hK
                  refine step_append_same rfl (.tmp 44) (.tmp 45) 22 rfl 34 i0 Try.underlying22 hi0 _ c rfl A rfl HA.out ?_
                  have hE' := hHeld
                  refine hK.out _ _ hE' (fun hHeld => ?_)
                  clear hK K hE'
                  (try simp only [Act.put, List.setIfInBounds_toArray, List.set_cons_zero, List.set_cons_succ])
                  refine hOnly 14 (by kernel_rfl) (by decide) ?_
                  (intro oi hoi; simp only [List.getElem?_toArray, List.getElem?_cons_succ, List.getElem?_cons_zero] at hoi; obtain rfl := Option.some.inj hoi; clear hoi); intro K hK
                  go_simp
                  have hb := (Below.refl y35.heap.size y35).alloc (Nat.le_refl _) (.cells #[.int .i64 s, .int .i64 e, .int .i64 k] 34)
                  have hE' := Env.step hb hHeld
                  have tm : (∀ j u, (([⟨s, e, k⟩] : List Tm).flatMap tenc)[j]? = some u → (y35.alloc (.cells #[.int .i64 s, .int .i64 e, .int .i64 k] 34)).cell? ((⟨y35.heap.size, 0, none⟩ : Addr).add j) = some u) ∧ y35.heap.size < (y35.alloc (.cells #[.int .i64 s, .int .i64 e, .int .i64 k] 34)).heap.size := ⟨tm_new y35 ⟨s, e, k⟩ 34 y35.heap.size rfl, by simp⟩
                  replace own9 := own9.below hb
                  obtain ⟨y37, hY⟩ : ∃ y, y = y35.alloc (.cells #[.int .i64 s, .int .i64 e, .int .i64 k] 34) := ⟨_, rfl⟩
                  rw [show (y35.alloc (.cells #[.int .i64 s, .int .i64 e, .int .i64 k] 34)) = y37 from hY.symm] at hb hE' own9 tm ⊢
                  clear hY hb
                  refine hK.out _ _ hE' (fun hHeld => ?_)
                  clear hK K hE'
                  (try simp only [Act.put, List.setIfInBounds_toArray, List.set_cons_zero, List.set_cons_succ])
                  refine hOnly 15 (by kernel_rfl) (by decide) ?_
                  (intro oi hoi; simp only [List.getElem?_toArray, List.getElem?_cons_succ, List.getElem?_cons_zero] at hoi; obtain rfl := Option.some.inj hoi; clear hoi); intro K hK
                  refine step_append_grow rfl (.tmp 46) (.tmp 48) 22 rfl 34 i0 (.agg #[.int .i64 0, .int .i64 0, .int .i64 0]) 3 24 Try.underlying22 hi0 hz0 hz1 hz2 rfl (by decide) tenc tenc_len _ 1 np 1 [⟨s, e, k⟩] rfl _ rfl rfl HNP.out (by omega) tm.1 (by unfold maxLen; omega) (by omega) ?_
                  intro g15 cap15 y38 own15 hb
                  have hE' := Env.step hb hHeld
                  have own9' := own9.below hb
                  rw [HL0.out] at own15
                  clear hb
                  clear own9 tm
                  refine hK.out _ _ hE' (fun hHeld => ?_)
                  clear hK K hE'
                  (try simp only [Act.put, List.setIfInBounds_toArray, List.set_cons_zero, List.set_cons_succ])
                  refine hOnly 16 (by kernel_rfl) (by decide) ?_; (intro oi hoi; simp only [List.getElem?_toArray, List.getElem?_cons_succ, List.getElem?_cons_zero] at hoi; obtain rfl := Option.some.inj hoi; clear hoi); intro K hK; go_simp
                  refine (HSQ.out _ _ _ (Own.rd tenc_len own15)).mono ?_
                  rintro r z38 ⟨v16, rfl, own16, hb⟩
                  obtain ⟨A16, c16, rfl, -⟩ := own_shape_n own16 HSPL.out
                  have hE' := Env.step hb hHeld
                  have own9 := own9'.below hb
                  clear hb own9' own15
                  refine hK.out _ _ hE' (fun hHeld => ?_)
                  clear hK K hE'
                  (try simp only [Act.put, List.setIfInBounds_toArray, List.set_cons_zero, List.set_cons_succ])
                  refine hOnly 17 (by kernel_rfl) (by decide) ?_; (intro oi hoi; simp only [List.getElem?_toArray, List.getElem?_cons_succ, List.getElem?_cons_zero] at hoi; obtain rfl := Option.some.inj hoi; clear hoi); intro K hK; go_simp
                  refine (tsame_yes _ _ _ _ np S _ (Own.rd tenc_len own9) (Own.rd tenc_len own16) (by rw [HSPL.out]; omega) HSPL.out).mono ?_
                  rintro r x38 ⟨rfl, hb⟩
                  have hE' := Env.step hb hHeld
                  clear hb own9 own16
                  refine hK.out _ _ hE' (fun hHeld => ?_)
                  clear hK K hE'
                  (try simp only [Act.put, List.setIfInBounds_toArray, List.set_cons_zero, List.set_cons_succ])
                  refine hTake 18 (by kernel_rfl) (by kernel_rfl) (by kernel_rfl) (by decide) (by assumption) ?_; (intro oi hoi; simp only [List.getElem?_toArray, List.getElem?_cons_succ, List.getElem?_cons_zero] at hoi; obtain rfl := Option.some.inj hoi; clear hoi); refine ⟨rfl, ?_⟩; apply Exists.intro; refine ⟨?_, fun _ _ _ h => h, ?_⟩; (intro w hSw; (try dsimp only at hSw); go_simp; (try with_reducible rfl)); (try simp only [Act.put, List.setIfInBounds_toArray, List.set_cons_zero, List.set_cons_succ]); refine hTake 19 (by kernel_rfl) (by kernel_rfl) (by kernel_rfl) (by decide) (by assumption) ?_; (intro oi hoi; simp only [List.getElem?_toArray, List.getElem?_cons_succ, List.getElem?_cons_zero] at hoi; obtain rfl := Option.some.inj hoi; clear hoi); refine ⟨rfl, ?_⟩; apply Exists.intro; refine ⟨?_, fun _ _ _ h => h, ?_⟩; (intro w hSw; (try dsimp only at hSw); go_simp; (try with_reducible rfl)); (try simp only [Act.put, List.setIfInBounds_toArray, List.set_cons_zero, List.set_cons_succ])
                  refine wpAnyH_done (by kernel_rfl) ?_ _
                  go_wp2_with fail
                  go_meet
                  exact ⟨rfl, hHeld.1⟩
                · skip
                  (intro oi hoi; simp only [List.getElem?_toArray, List.getElem?_cons_succ, List.getElem?_cons_zero] at hoi; obtain rfl := Option.some.inj hoi; clear hoi); intro K hK
                  go_simp
                  have hb := (Below.refl y35.heap.size y35).alloc (Nat.le_refl _) (.cells #[.int .i64 s, .int .i64 e, .int .i64 k] 34)
                  have hE' := Env.step hb hHeld
                  have tm : (∀ j u, (([⟨s, e, k⟩] : List Tm).flatMap tenc)[j]? = some u → (y35.alloc (.cells #[.int .i64 s, .int .i64 e, .int .i64 k] 34)).cell? ((⟨y35.heap.size, 0, none⟩ : Addr).add j) = some u) ∧ y35.heap.size < (y35.alloc (.cells #[.int .i64 s, .int .i64 e, .int .i64 k] 34)).heap.size := ⟨tm_new y35 ⟨s, e, k⟩ 34 y35.heap.size rfl, by simp⟩
                  replace own9 := own9.below hb
                  obtain ⟨y39, hY⟩ : ∃ y, y = y35.alloc (.cells #[.int .i64 s, .int .i64 e, .int .i64 k] 34) := ⟨_, rfl⟩
                  rw [show (y35.alloc (.cells #[.int .i64 s, .int .i64 e, .int .i64 k] 34)) = y39 from hY.symm] at hb hE' own9 tm ⊢
                  clear hY hb
                  refine hK.out _ _ hE' (fun hHeld => ?_)
                  clear hK K hE'
                  (try simp only [Act.put, List.setIfInBounds_toArray, List.set_cons_zero, List.set_cons_succ])
                  refine hOnly 12 (by kernel_rfl) (by decide) ?_
                  (intro oi hoi; simp only [List.getElem?_toArray, List.getElem?_cons_succ, List.getElem?_cons_zero] at hoi; obtain rfl := Option.some.inj hoi; clear hoi); intro K hK
                  refine step_append_same rfl (.tmp 44) (.tmp 45) 22 rfl 34 i0 Try.underlying22 hi0 _ c rfl A rfl HA.out ?_
                  have hE' := hHeld
                  refine hK.out _ _ hE' (fun hHeld => ?_)
                  clear hK K hE'
                  (try simp only [Act.put, List.setIfInBounds_toArray, List.set_cons_zero, List.set_cons_succ])
                  refine hOnly 15 (by kernel_rfl) (by decide) ?_
                  (intro oi hoi; simp only [List.getElem?_toArray, List.getElem?_cons_succ, List.getElem?_cons_zero] at hoi; obtain rfl := Option.some.inj hoi; clear hoi); intro K hK
                  refine step_append_grow rfl (.tmp 46) (.tmp 48) 22 rfl 34 i0 (.agg #[.int .i64 0, .int .i64 0, .int .i64 0]) 3 24 Try.underlying22 hi0 hz0 hz1 hz2 rfl (by decide) tenc tenc_len _ 1 np 1 [⟨s, e, k⟩] rfl _ rfl rfl HNP.out (by omega) tm.1 (by unfold maxLen; omega) (by omega) ?_
                  intro g15 cap15 y41 own15 hb
                  have hE' := Env.step hb hHeld
                  have own9' := own9.below hb
                  rw [HL0.out] at own15
                  clear hb
                  clear own9 tm
                  refine hK.out _ _ hE' (fun hHeld => ?_)
                  clear hK K hE'
                  (try simp only [Act.put, List.setIfInBounds_toArray, List.set_cons_zero, List.set_cons_succ])
                  refine hOnly 16 (by kernel_rfl) (by decide) ?_; (intro oi hoi; simp only [List.getElem?_toArray, List.getElem?_cons_succ, List.getElem?_cons_zero] at hoi; obtain rfl := Option.some.inj hoi; clear hoi); intro K hK; go_simp
                  refine (HSQ.out _ _ _ (Own.rd tenc_len own15)).mono ?_
                  rintro r z41 ⟨v16, rfl, own16, hb⟩
                  obtain ⟨A16, c16, rfl, -⟩ := own_shape_n own16 HSPL.out
                  have hE' := Env.step hb hHeld
                  have own9 := own9'.below hb
                  clear hb own9' own15
                  refine hK.out _ _ hE' (fun hHeld => ?_)
                  clear hK K hE'
                  (try simp only [Act.put, List.setIfInBounds_toArray, List.set_cons_zero, List.set_cons_succ])
                  refine hOnly 17 (by kernel_rfl) (by decide) ?_; (intro oi hoi; simp only [List.getElem?_toArray, List.getElem?_cons_succ, List.getElem?_cons_zero] at hoi; obtain rfl := Option.some.inj hoi; clear hoi); intro K hK; go_simp
                  refine (tsame_yes _ _ _ _ np S _ (Own.rd tenc_len own9) (Own.rd tenc_len own16) (by rw [HSPL.out]; omega) HSPL.out).mono ?_
                  rintro r x41 ⟨rfl, hb⟩
                  have hE' := Env.step hb hHeld
                  clear hb own9 own16
                  refine hK.out _ _ hE' (fun hHeld => ?_)
                  clear hK K hE'
                  (try simp only [Act.put, List.setIfInBounds_toArray, List.set_cons_zero, List.set_cons_succ])
                  refine hTake 18 (by kernel_rfl) (by kernel_rfl) (by kernel_rfl) (by decide) (by assumption) ?_; (intro oi hoi; simp only [List.getElem?_toArray, List.getElem?_cons_succ, List.getElem?_cons_zero] at hoi; obtain rfl := Option.some.inj hoi; clear hoi); refine ⟨rfl, ?_⟩; apply Exists.intro; refine ⟨?_, fun _ _ _ h => h, ?_⟩; (intro w hSw; (try dsimp only at hSw); go_simp; (try with_reducible rfl)); (try simp only [Act.put, List.setIfInBounds_toArray, List.set_cons_zero, List.set_cons_succ]); refine hTake 19 (by kernel_rfl) (by kernel_rfl) (by kernel_rfl) (by decide) (by assumption) ?_; (intro oi hoi; simp only [List.getElem?_toArray, List.getElem?_cons_succ, List.getElem?_cons_zero] at hoi; obtain rfl := Option.some.inj hoi; clear hoi); refine ⟨rfl, ?_⟩; apply Exists.intro; refine ⟨?_, fun _ _ _ h => h, ?_⟩; (intro w hSw; (try dsimp only at hSw); go_simp; (try with_reducible rfl)); (try simp only [Act.put, List.setIfInBounds_toArray, List.set_cons_zero, List.set_cons_succ])
                  refine wpAnyH_done (by kernel_rfl) ?_ _
                  go_wp2_with fail
                  go_meet
                  exact ⟨rfl, hHeld.1⟩
              · skip
                (intro oi hoi; simp only [List.getElem?_toArray, List.getElem?_cons_succ, List.getElem?_cons_zero] at hoi; obtain rfl := Option.some.inj hoi; clear hoi); intro K hK
                go_simp
                have hb := (Below.refl y34.heap.size y34).alloc (Nat.le_refl _) (.cells #[.int .i64 s, .int .i64 e, .int .i64 k] 34)
                have hE' := Env.step hb hHeld
                have tm : (∀ j u, (([⟨s, e, k⟩] : List Tm).flatMap tenc)[j]? = some u → (y34.alloc (.cells #[.int .i64 s, .int .i64 e, .int .i64 k] 34)).cell? ((⟨y34.heap.size, 0, none⟩ : Addr).add j) = some u) ∧ y34.heap.size < (y34.alloc (.cells #[.int .i64 s, .int .i64 e, .int .i64 k] 34)).heap.size := ⟨tm_new y34 ⟨s, e, k⟩ 34 y34.heap.size rfl, by simp⟩
                replace own9 := own9.below hb
                obtain ⟨y42, hY⟩ : ∃ y, y = y34.alloc (.cells #[.int .i64 s, .int .i64 e, .int .i64 k] 34) := ⟨_, rfl⟩
                rw [show (y34.alloc (.cells #[.int .i64 s, .int .i64 e, .int .i64 k] 34)) = y42 from hY.symm] at hb hE' own9 tm ⊢
                clear hY hb
                refine hK.out _ _ hE' (fun hHeld => ?_)
                clear hK K hE'
                (try simp only [Act.put, List.setIfInBounds_toArray, List.set_cons_zero, List.set_cons_succ])
                refine hOnly 10 (by kernel_rfl) (by decide) ?_
                (intro oi hoi; simp only [List.getElem?_toArray, List.getElem?_cons_succ, List.getElem?_cons_zero] at hoi; obtain rfl := Option.some.inj hoi; clear hoi); intro K hK
                go_simp
                have hb := (Below.refl y42.heap.size y42).alloc (Nat.le_refl _) (.cells #[] 34)
                have hE' := Env.step hb hHeld
                replace own9 := own9.below hb
                replace tm := tm_below hb tm
                obtain ⟨y43, hY⟩ : ∃ y, y = y42.alloc (.cells #[] 34) := ⟨_, rfl⟩
                rw [show (y42.alloc (.cells #[] 34)) = y43 from hY.symm] at hb hE' own9 tm ⊢
                clear hY hb
                refine hK.out _ _ hE' (fun hHeld => ?_)
                clear hK K hE'
                (try simp only [Act.put, List.setIfInBounds_toArray, List.set_cons_zero, List.set_cons_succ])
                refine hOnly 12 (by kernel_rfl) (by decide) ?_
                (intro oi hoi; simp only [List.getElem?_toArray, List.getElem?_cons_succ, List.getElem?_cons_zero] at hoi; obtain rfl := Option.some.inj hoi; clear hoi); intro K hK
                refine step_append_same rfl (.tmp 44) (.tmp 45) 22 rfl 34 i0 Try.underlying22 hi0 _ c rfl A rfl HA.out ?_
                have hE' := hHeld
                refine hK.out _ _ hE' (fun hHeld => ?_)
                clear hK K hE'
                (try simp only [Act.put, List.setIfInBounds_toArray, List.set_cons_zero, List.set_cons_succ])
                refine hOnly 15 (by kernel_rfl) (by decide) ?_
                (intro oi hoi; simp only [List.getElem?_toArray, List.getElem?_cons_succ, List.getElem?_cons_zero] at hoi; obtain rfl := Option.some.inj hoi; clear hoi); intro K hK
                refine step_append_grow rfl (.tmp 46) (.tmp 48) 22 rfl 34 i0 (.agg #[.int .i64 0, .int .i64 0, .int .i64 0]) 3 24 Try.underlying22 hi0 hz0 hz1 hz2 rfl (by decide) tenc tenc_len _ 1 np 1 [⟨s, e, k⟩] rfl _ rfl rfl HNP.out (by omega) tm.1 (by unfold maxLen; omega) (by omega) ?_
                intro g15 cap15 y45 own15 hb
                have hE' := Env.step hb hHeld
                have own9' := own9.below hb
                rw [HL0.out] at own15
                clear hb
                clear own9 tm
                refine hK.out _ _ hE' (fun hHeld => ?_)
                clear hK K hE'
                (try simp only [Act.put, List.setIfInBounds_toArray, List.set_cons_zero, List.set_cons_succ])
                refine hOnly 16 (by kernel_rfl) (by decide) ?_; (intro oi hoi; simp only [List.getElem?_toArray, List.getElem?_cons_succ, List.getElem?_cons_zero] at hoi; obtain rfl := Option.some.inj hoi; clear hoi); intro K hK; go_simp
                refine (HSQ.out _ _ _ (Own.rd tenc_len own15)).mono ?_
                rintro r z45 ⟨v16, rfl, own16, hb⟩
                obtain ⟨A16, c16, rfl, -⟩ := own_shape_n own16 HSPL.out
                have hE' := Env.step hb hHeld
                have own9 := own9'.below hb
                clear hb own9' own15
                refine hK.out _ _ hE' (fun hHeld => ?_)
                clear hK K hE'
                (try simp only [Act.put, List.setIfInBounds_toArray, List.set_cons_zero, List.set_cons_succ])
                refine hOnly 17 (by kernel_rfl) (by decide) ?_; (intro oi hoi; simp only [List.getElem?_toArray, List.getElem?_cons_succ, List.getElem?_cons_zero] at hoi; obtain rfl := Option.some.inj hoi; clear hoi); intro K hK; go_simp
                refine (tsame_yes _ _ _ _ np S _ (Own.rd tenc_len own9) (Own.rd tenc_len own16) (by rw [HSPL.out]; omega) HSPL.out).mono ?_
                rintro r x45 ⟨rfl, hb⟩
                have hE' := Env.step hb hHeld
                clear hb own9 own16
                refine hK.out _ _ hE' (fun hHeld => ?_)
                clear hK K hE'
                (try simp only [Act.put, List.setIfInBounds_toArray, List.set_cons_zero, List.set_cons_succ])
                refine hTake 18 (by kernel_rfl) (by kernel_rfl) (by kernel_rfl) (by decide) (by assumption) ?_; (intro oi hoi; simp only [List.getElem?_toArray, List.getElem?_cons_succ, List.getElem?_cons_zero] at hoi; obtain rfl := Option.some.inj hoi; clear hoi); refine ⟨rfl, ?_⟩; apply Exists.intro; refine ⟨?_, fun _ _ _ h => h, ?_⟩; (intro w hSw; (try dsimp only at hSw); go_simp; (try with_reducible rfl)); (try simp only [Act.put, List.setIfInBounds_toArray, List.set_cons_zero, List.set_cons_succ]); refine hTake 19 (by kernel_rfl) (by kernel_rfl) (by kernel_rfl) (by decide) (by assumption) ?_; (intro oi hoi; simp only [List.getElem?_toArray, List.getElem?_cons_succ, List.getElem?_cons_zero] at hoi; obtain rfl := Option.some.inj hoi; clear hoi); refine ⟨rfl, ?_⟩; apply Exists.intro; refine ⟨?_, fun _ _ _ h => h, ?_⟩; (intro w hSw; (try dsimp only at hSw); go_simp; (try with_reducible rfl)); (try simp only [Act.put, List.setIfInBounds_toArray, List.set_cons_zero, List.set_cons_succ])
                refine wpAnyH_done (by kernel_rfl) ?_ _
                go_wp2_with fail
                go_meet
                exact ⟨rfl, hHeld.1⟩
            · skip
              (intro oi hoi; simp only [List.getElem?_toArray, List.getElem?_cons_succ, List.getElem?_cons_zero] at hoi; obtain rfl := Option.some.inj hoi; clear hoi); intro K hK
              go_simp
              have hb := (Below.refl x0w.heap.size x0w).alloc (Nat.le_refl _) (.cells #[] 34)
              have hE' := Env.step hb hHeld
              obtain ⟨y46, hY⟩ : ∃ y, y = x0w.alloc (.cells #[] 34) := ⟨_, rfl⟩
              rw [show (x0w.alloc (.cells #[] 34)) = y46 from hY.symm] at hb hE' ⊢
              clear hY hb
              refine hK.out _ _ hE' (fun hHeld => ?_)
              clear hK K hE'
              (try simp only [Act.put, List.setIfInBounds_toArray, List.set_cons_zero, List.set_cons_succ])
              refine wpAnyH_ready (rs := [9, 14]) (by kernel_rfl) (by simp) ?_
              refine hCons 9 (by decide) ?_ (hCons 14 (by decide) ?_ AllReadyH.nil)
              · skip
                (intro oi hoi; simp only [List.getElem?_toArray, List.getElem?_cons_succ, List.getElem?_cons_zero] at hoi; obtain rfl := Option.some.inj hoi; clear hoi); intro K hK
                go_simp
                refine (HSP.out _ _ _ (rd_grown (Own.rd tenc_len own3) hHeld.1)).mono ?_
                rintro r y47 ⟨v9, rfl, own9, hb⟩
                obtain ⟨A9, c9, rfl, -⟩ := own_shape_n own9 HSPL.out
                have hE' := Env.step hb hHeld
                clear hb
                refine hK.out _ _ hE' (fun hHeld => ?_)
                clear hK K hE'
                (try simp only [Act.put, List.setIfInBounds_toArray, List.set_cons_zero, List.set_cons_succ])
                refine wpAnyH_ready (rs := [12, 14]) (by kernel_rfl) (by simp) ?_
                refine hCons 12 (by decide) ?_ (hCons 14 (by decide) ?_ AllReadyH.nil)
                · skip
                  (intro oi hoi; simp only [List.getElem?_toArray, List.getElem?_cons_succ, List.getElem?_cons_zero] at hoi; obtain rfl := Option.some.inj hoi; clear hoi); intro K hK
                  refine step_append_same rfl (.tmp 44) (.tmp 45) 22 rfl 34 i0 Try.underlying22 hi0 _ c rfl A rfl HA.out ?_
                  have hE' := hHeld
                  refine hK.out _ _ hE' (fun hHeld => ?_)
                  clear hK K hE'
                  (try simp only [Act.put, List.setIfInBounds_toArray, List.set_cons_zero, List.set_cons_succ])
                  refine hOnly 14 (by kernel_rfl) (by decide) ?_
                  (intro oi hoi; simp only [List.getElem?_toArray, List.getElem?_cons_succ, List.getElem?_cons_zero] at hoi; obtain rfl := Option.some.inj hoi; clear hoi); intro K hK
                  go_simp
                  have hb := (Below.refl y47.heap.size y47).alloc (Nat.le_refl _) (.cells #[.int .i64 s, .int .i64 e, .int .i64 k] 34)
                  have hE' := Env.step hb hHeld
                  have tm : (∀ j u, (([⟨s, e, k⟩] : List Tm).flatMap tenc)[j]? = some u → (y47.alloc (.cells #[.int .i64 s, .int .i64 e, .int .i64 k] 34)).cell? ((⟨y47.heap.size, 0, none⟩ : Addr).add j) = some u) ∧ y47.heap.size < (y47.alloc (.cells #[.int .i64 s, .int .i64 e, .int .i64 k] 34)).heap.size := ⟨tm_new y47 ⟨s, e, k⟩ 34 y47.heap.size rfl, by simp⟩
                  replace own9 := own9.below hb
                  obtain ⟨y49, hY⟩ : ∃ y, y = y47.alloc (.cells #[.int .i64 s, .int .i64 e, .int .i64 k] 34) := ⟨_, rfl⟩
                  rw [show (y47.alloc (.cells #[.int .i64 s, .int .i64 e, .int .i64 k] 34)) = y49 from hY.symm] at hb hE' own9 tm ⊢
                  clear hY hb
                  refine hK.out _ _ hE' (fun hHeld => ?_)
                  clear hK K hE'
                  (try simp only [Act.put, List.setIfInBounds_toArray, List.set_cons_zero, List.set_cons_succ])
                  refine hOnly 15 (by kernel_rfl) (by decide) ?_
                  (intro oi hoi; simp only [List.getElem?_toArray, List.getElem?_cons_succ, List.getElem?_cons_zero] at hoi; obtain rfl := Option.some.inj hoi; clear hoi); intro K hK
                  refine step_append_grow rfl (.tmp 46) (.tmp 48) 22 rfl 34 i0 (.agg #[.int .i64 0, .int .i64 0, .int .i64 0]) 3 24 Try.underlying22 hi0 hz0 hz1 hz2 rfl (by decide) tenc tenc_len _ 1 np 1 [⟨s, e, k⟩] rfl _ rfl rfl HNP.out (by omega) tm.1 (by unfold maxLen; omega) (by omega) ?_
                  intro g15 cap15 y50 own15 hb
                  have hE' := Env.step hb hHeld
                  have own9' := own9.below hb
                  rw [HL0.out] at own15
                  clear hb
                  clear own9 tm
                  refine hK.out _ _ hE' (fun hHeld => ?_)
                  clear hK K hE'
                  (try simp only [Act.put, List.setIfInBounds_toArray, List.set_cons_zero, List.set_cons_succ])
                  refine hOnly 16 (by kernel_rfl) (by decide) ?_; (intro oi hoi; simp only [List.getElem?_toArray, List.getElem?_cons_succ, List.getElem?_cons_zero] at hoi; obtain rfl := Option.some.inj hoi; clear hoi); intro K hK; go_simp
                  refine (HSQ.out _ _ _ (Own.rd tenc_len own15)).mono ?_
                  rintro r z50 ⟨v16, rfl, own16, hb⟩
                  obtain ⟨A16, c16, rfl, -⟩ := own_shape_n own16 HSPL.out
                  have hE' := Env.step hb hHeld
                  have own9 := own9'.below hb
                  clear hb own9' own15
                  refine hK.out _ _ hE' (fun hHeld => ?_)
                  clear hK K hE'
                  (try simp only [Act.put, List.setIfInBounds_toArray, List.set_cons_zero, List.set_cons_succ])
                  refine hOnly 17 (by kernel_rfl) (by decide) ?_; (intro oi hoi; simp only [List.getElem?_toArray, List.getElem?_cons_succ, List.getElem?_cons_zero] at hoi; obtain rfl := Option.some.inj hoi; clear hoi); intro K hK; go_simp
                  refine (tsame_yes _ _ _ _ np S _ (Own.rd tenc_len own9) (Own.rd tenc_len own16) (by rw [HSPL.out]; omega) HSPL.out).mono ?_
                  rintro r x50 ⟨rfl, hb⟩
                  have hE' := Env.step hb hHeld
                  clear hb own9 own16
                  refine hK.out _ _ hE' (fun hHeld => ?_)
                  clear hK K hE'
                  (try simp only [Act.put, List.setIfInBounds_toArray, List.set_cons_zero, List.set_cons_succ])
                  refine hTake 18 (by kernel_rfl) (by kernel_rfl) (by kernel_rfl) (by decide) (by assumption) ?_; (intro oi hoi; simp only [List.getElem?_toArray, List.getElem?_cons_succ, List.getElem?_cons_zero] at hoi; obtain rfl := Option.some.inj hoi; clear hoi); refine ⟨rfl, ?_⟩; apply Exists.intro; refine ⟨?_, fun _ _ _ h => h, ?_⟩; (intro w hSw; (try dsimp only at hSw); go_simp; (try with_reducible rfl)); (try simp only [Act.put, List.setIfInBounds_toArray, List.set_cons_zero, List.set_cons_succ]); refine hTake 19 (by kernel_rfl) (by kernel_rfl) (by kernel_rfl) (by decide) (by assumption) ?_; (intro oi hoi; simp only [List.getElem?_toArray, List.getElem?_cons_succ, List.getElem?_cons_zero] at hoi; obtain rfl := Option.some.inj hoi; clear hoi); refine ⟨rfl, ?_⟩; apply Exists.intro; refine ⟨?_, fun _ _ _ h => h, ?_⟩; (intro w hSw; (try dsimp only at hSw); go_simp; (try with_reducible rfl)); (try simp only [Act.put, List.setIfInBounds_toArray, List.set_cons_zero, List.set_cons_succ])
                  refine wpAnyH_done (by kernel_rfl) ?_ _
                  go_wp2_with fail
                  go_meet
                  exact ⟨rfl, hHeld.1⟩
                · skip
                  (intro oi hoi; simp only [List.getElem?_toArray, List.getElem?_cons_succ, List.getElem?_cons_zero] at hoi; obtain rfl := Option.some.inj hoi; clear hoi); intro K hK
                  go_simp
                  have hb := (Below.refl y47.heap.size y47).alloc (Nat.le_refl _) (.cells #[.int .i64 s, .int .i64 e, .int .i64 k] 34)
                  have hE' := Env.step hb hHeld
                  have tm : (∀ j u, (([⟨s, e, k⟩] : List Tm).flatMap tenc)[j]? = some u → (y47.alloc (.cells #[.int .i64 s, .int .i64 e, .int .i64 k] 34)).cell? ((⟨y47.heap.size, 0, none⟩ : Addr).add j) = some u) ∧ y47.heap.size < (y47.alloc (.cells #[.int .i64 s, .int .i64 e, .int .i64 k] 34)).heap.size := ⟨tm_new y47 ⟨s, e, k⟩ 34 y47.heap.size rfl, by simp⟩
                  replace own9 := own9.below hb
                  obtain ⟨y51, hY⟩ : ∃ y, y = y47.alloc (.cells #[.int .i64 s, .int .i64 e, .int .i64 k] 34) := ⟨_, rfl⟩
                  rw [show (y47.alloc (.cells #[.int .i64 s, .int .i64 e, .int .i64 k] 34)) = y51 from hY.symm] at hb hE' own9 tm ⊢
                  clear hY hb
                  refine hK.out _ _ hE' (fun hHeld => ?_)
                  clear hK K hE'
                  (try simp only [Act.put, List.setIfInBounds_toArray, List.set_cons_zero, List.set_cons_succ])
                  refine hOnly 12 (by kernel_rfl) (by decide) ?_
                  (intro oi hoi; simp only [List.getElem?_toArray, List.getElem?_cons_succ, List.getElem?_cons_zero] at hoi; obtain rfl := Option.some.inj hoi; clear hoi); intro K hK
                  refine step_append_same rfl (.tmp 44) (.tmp 45) 22 rfl 34 i0 Try.underlying22 hi0 _ c rfl A rfl HA.out ?_
                  have hE' := hHeld
                  refine hK.out _ _ hE' (fun hHeld => ?_)
                  clear hK K hE'
                  (try simp only [Act.put, List.setIfInBounds_toArray, List.set_cons_zero, List.set_cons_succ])
                  refine hOnly 15 (by kernel_rfl) (by decide) ?_
                  (intro oi hoi; simp only [List.getElem?_toArray, List.getElem?_cons_succ, List.getElem?_cons_zero] at hoi; obtain rfl := Option.some.inj hoi; clear hoi); intro K hK
                  refine step_append_grow rfl (.tmp 46) (.tmp 48) 22 rfl 34 i0 (.agg #[.int .i64 0, .int .i64 0, .int .i64 0]) 3 24 Try.underlying22 hi0 hz0 hz1 hz2 rfl (by decide) tenc tenc_len _ 1 np 1 [⟨s, e, k⟩] rfl _ rfl rfl HNP.out (by omega) tm.1 (by unfold maxLen; omega) (by omega) ?_
                  intro g15 cap15 y53 own15 hb
                  have hE' := Env.step hb hHeld
                  have own9' := own9.below hb
                  rw [HL0.out] at own15
                  clear hb
                  clear own9 tm
                  refine hK.out _ _ hE' (fun hHeld => ?_)
                  clear hK K hE'
                  (try simp only [Act.put, List.setIfInBounds_toArray, List.set_cons_zero, List.set_cons_succ])
                  refine hOnly 16 (by kernel_rfl) (by decide) ?_; (intro oi hoi; simp only [List.getElem?_toArray, List.getElem?_cons_succ, List.getElem?_cons_zero] at hoi; obtain rfl := Option.some.inj hoi; clear hoi); intro K hK; go_simp
                  refine (HSQ.out _ _ _ (Own.rd tenc_len own15)).mono ?_
                  rintro r z53 ⟨v16, rfl, own16, hb⟩
                  obtain ⟨A16, c16, rfl, -⟩ := own_shape_n own16 HSPL.out
                  have hE' := Env.step hb hHeld
                  have own9 := own9'.below hb
                  clear hb own9' own15
                  refine hK.out _ _ hE' (fun hHeld => ?_)
                  clear hK K hE'
                  (try simp only [Act.put, List.setIfInBounds_toArray, List.set_cons_zero, List.set_cons_succ])
                  refine hOnly 17 (by kernel_rfl) (by decide) ?_; (intro oi hoi; simp only [List.getElem?_toArray, List.getElem?_cons_succ, List.getElem?_cons_zero] at hoi; obtain rfl := Option.some.inj hoi; clear hoi); intro K hK; go_simp
                  refine (tsame_yes _ _ _ _ np S _ (Own.rd tenc_len own9) (Own.rd tenc_len own16) (by rw [HSPL.out]; omega) HSPL.out).mono ?_
                  rintro r x53 ⟨rfl, hb⟩
                  have hE' := Env.step hb hHeld
                  clear hb own9 own16
                  refine hK.out _ _ hE' (fun hHeld => ?_)
                  clear hK K hE'
                  (try simp only [Act.put, List.setIfInBounds_toArray, List.set_cons_zero, List.set_cons_succ])
                  refine hTake 18 (by kernel_rfl) (by kernel_rfl) (by kernel_rfl) (by decide) (by assumption) ?_; (intro oi hoi; simp only [List.getElem?_toArray, List.getElem?_cons_succ, List.getElem?_cons_zero] at hoi; obtain rfl := Option.some.inj hoi; clear hoi); refine ⟨rfl, ?_⟩; apply Exists.intro; refine ⟨?_, fun _ _ _ h => h, ?_⟩; (intro w hSw; (try dsimp only at hSw); go_simp; (try with_reducible rfl)); (try simp only [Act.put, List.setIfInBounds_toArray, List.set_cons_zero, List.set_cons_succ]); refine hTake 19 (by kernel_rfl) (by kernel_rfl) (by kernel_rfl) (by decide) (by assumption) ?_; (intro oi hoi; simp only [List.getElem?_toArray, List.getElem?_cons_succ, List.getElem?_cons_zero] at hoi; obtain rfl := Option.some.inj hoi; clear hoi); refine ⟨rfl, ?_⟩; apply Exists.intro; refine ⟨?_, fun _ _ _ h => h, ?_⟩; (intro w hSw; (try dsimp only at hSw); go_simp; (try with_reducible rfl)); (try simp only [Act.put, List.setIfInBounds_toArray, List.set_cons_zero, List.set_cons_succ])
                  refine wpAnyH_done (by kernel_rfl) ?_ _
                  go_wp2_with fail
                  go_meet
                  exact ⟨rfl, hHeld.1⟩
              · skip
                (intro oi hoi; simp only [List.getElem?_toArray, List.getElem?_cons_succ, List.getElem?_cons_zero] at hoi; obtain rfl := Option.some.inj hoi; clear hoi); intro K hK
                go_simp
                have hb := (Below.refl y46.heap.size y46).alloc (Nat.le_refl _) (.cells #[.int .i64 s, .int .i64 e, .int .i64 k] 34)
                have hE' := Env.step hb hHeld
                have tm : (∀ j u, (([⟨s, e, k⟩] : List Tm).flatMap tenc)[j]? = some u → (y46.alloc (.cells #[.int .i64 s, .int .i64 e, .int .i64 k] 34)).cell? ((⟨y46.heap.size, 0, none⟩ : Addr).add j) = some u) ∧ y46.heap.size < (y46.alloc (.cells #[.int .i64 s, .int .i64 e, .int .i64 k] 34)).heap.size := ⟨tm_new y46 ⟨s, e, k⟩ 34 y46.heap.size rfl, by simp⟩
                obtain ⟨y54, hY⟩ : ∃ y, y = y46.alloc (.cells #[.int .i64 s, .int .i64 e, .int .i64 k] 34) := ⟨_, rfl⟩
                rw [show (y46.alloc (.cells #[.int .i64 s, .int .i64 e, .int .i64 k] 34)) = y54 from hY.symm] at hb hE' tm ⊢
                clear hY hb
                refine hK.out _ _ hE' (fun hHeld => ?_)
                clear hK K hE'
                (try simp only [Act.put, List.setIfInBounds_toArray, List.set_cons_zero, List.set_cons_succ])
                refine hOnly 9 (by kernel_rfl) (by decide) ?_
                (intro oi hoi; simp only [List.getElem?_toArray, List.getElem?_cons_succ, List.getElem?_cons_zero] at hoi; obtain rfl := Option.some.inj hoi; clear hoi); intro K hK
                go_simp
                refine (HSP.out _ _ _ (rd_grown (Own.rd tenc_len own3) hHeld.1)).mono ?_
                rintro r y55 ⟨v9, rfl, own9, hb⟩
                obtain ⟨A9, c9, rfl, -⟩ := own_shape_n own9 HSPL.out
                have hE' := Env.step hb hHeld
                replace tm := tm_below hb tm
                clear hb
                refine hK.out _ _ hE' (fun hHeld => ?_)
                clear hK K hE'
                (try simp only [Act.put, List.setIfInBounds_toArray, List.set_cons_zero, List.set_cons_succ])
                refine hOnly 12 (by kernel_rfl) (by decide) ?_
                (intro oi hoi; simp only [List.getElem?_toArray, List.getElem?_cons_succ, List.getElem?_cons_zero] at hoi; obtain rfl := Option.some.inj hoi; clear hoi); intro K hK
                refine step_append_same rfl (.tmp 44) (.tmp 45) 22 rfl 34 i0 Try.underlying22 hi0 _ c rfl A rfl HA.out ?_
                have hE' := hHeld
                refine hK.out _ _ hE' (fun hHeld => ?_)
                clear hK K hE'
                (try simp only [Act.put, List.setIfInBounds_toArray, List.set_cons_zero, List.set_cons_succ])
                refine hOnly 15 (by kernel_rfl) (by decide) ?_
                (intro oi hoi; simp only [List.getElem?_toArray, List.getElem?_cons_succ, List.getElem?_cons_zero] at hoi; obtain rfl := Option.some.inj hoi; clear hoi); intro K hK
                refine step_append_grow rfl (.tmp 46) (.tmp 48) 22 rfl 34 i0 (.agg #[.int .i64 0, .int .i64 0, .int .i64 0]) 3 24 Try.underlying22 hi0 hz0 hz1 hz2 rfl (by decide) tenc tenc_len _ 1 np 1 [⟨s, e, k⟩] rfl _ rfl rfl HNP.out (by omega) tm.1 (by unfold maxLen; omega) (by omega) ?_
                intro g15 cap15 y57 own15 hb
                have hE' := Env.step hb hHeld
                have own9' := own9.below hb
                rw [HL0.out] at own15
                clear hb
                clear own9 tm
                refine hK.out _ _ hE' (fun hHeld => ?_)
                clear hK K hE'
                (try simp only [Act.put, List.setIfInBounds_toArray, List.set_cons_zero, List.set_cons_succ])
                refine hOnly 16 (by kernel_rfl) (by decide) ?_; (intro oi hoi; simp only [List.getElem?_toArray, List.getElem?_cons_succ, List.getElem?_cons_zero] at hoi; obtain rfl := Option.some.inj hoi; clear hoi); intro K hK; go_simp
                refine (HSQ.out _ _ _ (Own.rd tenc_len own15)).mono ?_
                rintro r z57 ⟨v16, rfl, own16, hb⟩
                obtain ⟨A16, c16, rfl, -⟩ := own_shape_n own16 HSPL.out
                have hE' := Env.step hb hHeld
                have own9 := own9'.below hb
                clear hb own9' own15
                refine hK.out _ _ hE' (fun hHeld => ?_)
                clear hK K hE'
                (try simp only [Act.put, List.setIfInBounds_toArray, List.set_cons_zero, List.set_cons_succ])
                refine hOnly 17 (by kernel_rfl) (by decide) ?_; (intro oi hoi; simp only [List.getElem?_toArray, List.getElem?_cons_succ, List.getElem?_cons_zero] at hoi; obtain rfl := Option.some.inj hoi; clear hoi); intro K hK; go_simp
                refine (tsame_yes _ _ _ _ np S _ (Own.rd tenc_len own9) (Own.rd tenc_len own16) (by rw [HSPL.out]; omega) HSPL.out).mono ?_
                rintro r x57 ⟨rfl, hb⟩
                have hE' := Env.step hb hHeld
                clear hb own9 own16
                refine hK.out _ _ hE' (fun hHeld => ?_)
                clear hK K hE'
                (try simp only [Act.put, List.setIfInBounds_toArray, List.set_cons_zero, List.set_cons_succ])
                refine hTake 18 (by kernel_rfl) (by kernel_rfl) (by kernel_rfl) (by decide) (by assumption) ?_; (intro oi hoi; simp only [List.getElem?_toArray, List.getElem?_cons_succ, List.getElem?_cons_zero] at hoi; obtain rfl := Option.some.inj hoi; clear hoi); refine ⟨rfl, ?_⟩; apply Exists.intro; refine ⟨?_, fun _ _ _ h => h, ?_⟩; (intro w hSw; (try dsimp only at hSw); go_simp; (try with_reducible rfl)); (try simp only [Act.put, List.setIfInBounds_toArray, List.set_cons_zero, List.set_cons_succ]); refine hTake 19 (by kernel_rfl) (by kernel_rfl) (by kernel_rfl) (by decide) (by assumption) ?_; (intro oi hoi; simp only [List.getElem?_toArray, List.getElem?_cons_succ, List.getElem?_cons_zero] at hoi; obtain rfl := Option.some.inj hoi; clear hoi); refine ⟨rfl, ?_⟩; apply Exists.intro; refine ⟨?_, fun _ _ _ h => h, ?_⟩; (intro w hSw; (try dsimp only at hSw); go_simp; (try with_reducible rfl)); (try simp only [Act.put, List.setIfInBounds_toArray, List.set_cons_zero, List.set_cons_succ])
                refine wpAnyH_done (by kernel_rfl) ?_ _
                go_wp2_with fail
                go_meet
                exact ⟨rfl, hHeld.1⟩
            · skip
              (intro oi hoi; simp only [List.getElem?_toArray, List.getElem?_cons_succ, List.getElem?_cons_zero] at hoi; obtain rfl := Option.some.inj hoi; clear hoi); intro K hK
              go_simp
              have hb := (Below.refl x0w.heap.size x0w).alloc (Nat.le_refl _) (.cells #[.int .i64 s, .int .i64 e, .int .i64 k] 34)
              have hE' := Env.step hb hHeld
              have tm : (∀ j u, (([⟨s, e, k⟩] : List Tm).flatMap tenc)[j]? = some u → (x0w.alloc (.cells #[.int .i64 s, .int .i64 e, .int .i64 k] 34)).cell? ((⟨x0w.heap.size, 0, none⟩ : Addr).add j) = some u) ∧ x0w.heap.size < (x0w.alloc (.cells #[.int .i64 s, .int .i64 e, .int .i64 k] 34)).heap.size := ⟨tm_new x0w ⟨s, e, k⟩ 34 x0w.heap.size rfl, by simp⟩
              obtain ⟨y58, hY⟩ : ∃ y, y = x0w.alloc (.cells #[.int .i64 s, .int .i64 e, .int .i64 k] 34) := ⟨_, rfl⟩
              rw [show (x0w.alloc (.cells #[.int .i64 s, .int .i64 e, .int .i64 k] 34)) = y58 from hY.symm] at hb hE' tm ⊢
              clear hY hb
              refine hK.out _ _ hE' (fun hHeld => ?_)
              clear hK K hE'
              (try simp only [Act.put, List.setIfInBounds_toArray, List.set_cons_zero, List.set_cons_succ])
              refine wpAnyH_ready (rs := [9, 10]) (by kernel_rfl) (by simp) ?_
              refine hCons 9 (by decide) ?_ (hCons 10 (by decide) ?_ AllReadyH.nil)
              · skip
                (intro oi hoi; simp only [List.getElem?_toArray, List.getElem?_cons_succ, List.getElem?_cons_zero] at hoi; obtain rfl := Option.some.inj hoi; clear hoi); intro K hK
                go_simp
                refine (HSP.out _ _ _ (rd_grown (Own.rd tenc_len own3) hHeld.1)).mono ?_
                rintro r y59 ⟨v9, rfl, own9, hb⟩
                obtain ⟨A9, c9, rfl, -⟩ := own_shape_n own9 HSPL.out
                have hE' := Env.step hb hHeld
                replace tm := tm_below hb tm
                clear hb
                refine hK.out _ _ hE' (fun hHeld => ?_)
                clear hK K hE'
                (try simp only [Act.put, List.setIfInBounds_toArray, List.set_cons_zero, List.set_cons_succ])
                refine hOnly 10 (by kernel_rfl) (by decide) ?_
                (intro oi hoi; simp only [List.getElem?_toArray, List.getElem?_cons_succ, List.getElem?_cons_zero] at hoi; obtain rfl := Option.some.inj hoi; clear hoi); intro K hK
                go_simp
                have hb := (Below.refl y59.heap.size y59).alloc (Nat.le_refl _) (.cells #[] 34)
                have hE' := Env.step hb hHeld
                replace own9 := own9.below hb
                replace tm := tm_below hb tm
                obtain ⟨y60, hY⟩ : ∃ y, y = y59.alloc (.cells #[] 34) := ⟨_, rfl⟩
                rw [show (y59.alloc (.cells #[] 34)) = y60 from hY.symm] at hb hE' own9 tm ⊢
                clear hY hb
                refine hK.out _ _ hE' (fun hHeld => ?_)
                clear hK K hE'
                (try simp only [Act.put, List.setIfInBounds_toArray, List.set_cons_zero, List.set_cons_succ])
                refine hOnly 12 (by kernel_rfl) (by decide) ?_
                (intro oi hoi; simp only [List.getElem?_toArray, List.getElem?_cons_succ, List.getElem?_cons_zero] at hoi; obtain rfl := Option.some.inj hoi; clear hoi); intro K hK
                refine step_append_same rfl (.tmp 44) (.tmp 45) 22 rfl 34 i0 Try.underlying22 hi0 _ c rfl A rfl HA.out ?_
                have hE' := hHeld
                refine hK.out _ _ hE' (fun hHeld => ?_)
                clear hK K hE'
                (try simp only [Act.put, List.setIfInBounds_toArray, List.set_cons_zero, List.set_cons_succ])
                refine hOnly 15 (by kernel_rfl) (by decide) ?_
                (intro oi hoi; simp only [List.getElem?_toArray, List.getElem?_cons_succ, List.getElem?_cons_zero] at hoi; obtain rfl := Option.some.inj hoi; clear hoi); intro K hK
                refine step_append_grow rfl (.tmp 46) (.tmp 48) 22 rfl 34 i0 (.agg #[.int .i64 0, .int .i64 0, .int .i64 0]) 3 24 Try.underlying22 hi0 hz0 hz1 hz2 rfl (by decide) tenc tenc_len _ 1 np 1 [⟨s, e, k⟩] rfl _ rfl rfl HNP.out (by omega) tm.1 (by unfold maxLen; omega) (by omega) ?_
                intro g15 cap15 y62 own15 hb
                have hE' := Env.step hb hHeld
                have own9' := own9.below hb
                rw [HL0.out] at own15
                clear hb
                clear own9 tm
                refine hK.out _ _ hE' (fun hHeld => ?_)
                clear hK K hE'
                (try simp only [Act.put, List.setIfInBounds_toArray, List.set_cons_zero, List.set_cons_succ])
                refine hOnly 16 (by kernel_rfl) (by decide) ?_; (intro oi hoi; simp only [List.getElem?_toArray, List.getElem?_cons_succ, List.getElem?_cons_zero] at hoi; obtain rfl := Option.some.inj hoi; clear hoi); intro K hK; go_simp
                refine (HSQ.out _ _ _ (Own.rd tenc_len own15)).mono ?_
                rintro r z62 ⟨v16, rfl, own16, hb⟩
                obtain ⟨A16, c16, rfl, -⟩ := own_shape_n own16 HSPL.out
                have hE' := Env.step hb hHeld
                have own9 := own9'.below hb
                clear hb own9' own15
                refine hK.out _ _ hE' (fun hHeld => ?_)
                clear hK K hE'
                (try simp only [Act.put, List.setIfInBounds_toArray, List.set_cons_zero, List.set_cons_succ])
                refine hOnly 17 (by kernel_rfl) (by decide) ?_; (intro oi hoi; simp only [List.getElem?_toArray, List.getElem?_cons_succ, List.getElem?_cons_zero] at hoi; obtain rfl := Option.some.inj hoi; clear hoi); intro K hK; go_simp
                refine (tsame_yes _ _ _ _ np S _ (Own.rd tenc_len own9) (Own.rd tenc_len own16) (by rw [HSPL.out]; omega) HSPL.out).mono ?_
                rintro r x62 ⟨rfl, hb⟩
                have hE' := Env.step hb hHeld
                clear hb own9 own16
                refine hK.out _ _ hE' (fun hHeld => ?_)
                clear hK K hE'
                (try simp only [Act.put, List.setIfInBounds_toArray, List.set_cons_zero, List.set_cons_succ])
                refine hTake 18 (by kernel_rfl) (by kernel_rfl) (by kernel_rfl) (by decide) (by assumption) ?_; (intro oi hoi; simp only [List.getElem?_toArray, List.getElem?_cons_succ, List.getElem?_cons_zero] at hoi; obtain rfl := Option.some.inj hoi; clear hoi); refine ⟨rfl, ?_⟩; apply Exists.intro; refine ⟨?_, fun _ _ _ h => h, ?_⟩; (intro w hSw; (try dsimp only at hSw); go_simp; (try with_reducible rfl)); (try simp only [Act.put, List.setIfInBounds_toArray, List.set_cons_zero, List.set_cons_succ]); refine hTake 19 (by kernel_rfl) (by kernel_rfl) (by kernel_rfl) (by decide) (by assumption) ?_; (intro oi hoi; simp only [List.getElem?_toArray, List.getElem?_cons_succ, List.getElem?_cons_zero] at hoi; obtain rfl := Option.some.inj hoi; clear hoi); refine ⟨rfl, ?_⟩; apply Exists.intro; refine ⟨?_, fun _ _ _ h => h, ?_⟩; (intro w hSw; (try dsimp only at hSw); go_simp; (try with_reducible rfl)); (try simp only [Act.put, List.setIfInBounds_toArray, List.set_cons_zero, List.set_cons_succ])
                refine wpAnyH_done (by kernel_rfl) ?_ _
                go_wp2_with fail
                go_meet
                exact ⟨rfl, hHeld.1⟩
              · skip
                (intro oi hoi; simp only [List.getElem?_toArray, List.getElem?_cons_succ, List.getElem?_cons_zero] at hoi; obtain rfl := Option.some.inj hoi; clear hoi); intro K hK
                go_simp
                have hb := (Below.refl y58.heap.size y58).alloc (Nat.le_refl _) (.cells #[] 34)
                have hE' := Env.step hb hHeld
                replace tm := tm_below hb tm
                obtain ⟨y63, hY⟩ : ∃ y, y = y58.alloc (.cells #[] 34) := ⟨_, rfl⟩
                rw [show (y58.alloc (.cells #[] 34)) = y63 from hY.symm] at hb hE' tm ⊢
                clear hY hb
                refine hK.out _ _ hE' (fun hHeld => ?_)
                clear hK K hE'
                (try simp only [Act.put, List.setIfInBounds_toArray, List.set_cons_zero, List.set_cons_succ])
                refine hOnly 9 (by kernel_rfl) (by decide) ?_
                (intro oi hoi; simp only [List.getElem?_toArray, List.getElem?_cons_succ, List.getElem?_cons_zero] at hoi; obtain rfl := Option.some.inj hoi; clear hoi); intro K hK
                go_simp
                refine (HSP.out _ _ _ (rd_grown (Own.rd tenc_len own3) hHeld.1)).mono ?_
                rintro r y64 ⟨v9, rfl, own9, hb⟩
                obtain ⟨A9, c9, rfl, -⟩ := own_shape_n own9 HSPL.out
                have hE' := Env.step hb hHeld
                replace tm := tm_below hb tm
                clear hb
                refine hK.out _ _ hE' (fun hHeld => ?_)
                clear hK K hE'
                (try simp only [Act.put, List.setIfInBounds_toArray, List.set_cons_zero, List.set_cons_succ])
                refine hOnly 12 (by kernel_rfl) (by decide) ?_
                (intro oi hoi; simp only [List.getElem?_toArray, List.getElem?_cons_succ, List.getElem?_cons_zero] at hoi; obtain rfl := Option.some.inj hoi; clear hoi); intro K hK
                refine step_append_same rfl (.tmp 44) (.tmp 45) 22 rfl 34 i0 Try.underlying22 hi0 _ c rfl A rfl HA.out ?_
                have hE' := hHeld
                refine hK.out _ _ hE' (fun hHeld => ?_)
                clear hK K hE'
                (try simp only [Act.put, List.setIfInBounds_toArray, List.set_cons_zero, List.set_cons_succ])
                refine hOnly 15 (by kernel_rfl) (by decide) ?_
                (intro oi hoi; simp only [List.getElem?_toArray, List.getElem?_cons_succ, List.getElem?_cons_zero] at hoi; obtain rfl := Option.some.inj hoi; clear hoi); intro K hK
                refine step_append_grow rfl (.tmp 46) (.tmp 48) 22 rfl 34 i0 (.agg #[.int .i64 0, .int .i64 0, .int .i64 0]) 3 24 Try.underlying22 hi0 hz0 hz1 hz2 rfl (by decide) tenc tenc_len _ 1 np 1 [⟨s, e, k⟩] rfl _ rfl rfl HNP.out (by omega) tm.1 (by unfold maxLen; omega) (by omega) ?_
                intro g15 cap15 y66 own15 hb
                have hE' := Env.step hb hHeld
                have own9' := own9.below hb
                rw [HL0.out] at own15
                clear hb
                clear own9 tm
                refine hK.out _ _ hE' (fun hHeld => ?_)
                clear hK K hE'
                (try simp only [Act.put, List.setIfInBounds_toArray, List.set_cons_zero, List.set_cons_succ])
                refine hOnly 16 (by kernel_rfl) (by decide) ?_; (intro oi hoi; simp only [List.getElem?_toArray, List.getElem?_cons_succ, List.getElem?_cons_zero] at hoi; obtain rfl := Option.some.inj hoi; clear hoi); intro K hK; go_simp
                refine (HSQ.out _ _ _ (Own.rd tenc_len own15)).mono ?_
                rintro r z66 ⟨v16, rfl, own16, hb⟩
                obtain ⟨A16, c16, rfl, -⟩ := own_shape_n own16 HSPL.out
                have hE' := Env.step hb hHeld
                have own9 := own9'.below hb
                clear hb own9' own15
                refine hK.out _ _ hE' (fun hHeld => ?_)
                clear hK K hE'
                (try simp only [Act.put, List.setIfInBounds_toArray, List.set_cons_zero, List.set_cons_succ])
                refine hOnly 17 (by kernel_rfl) (by decide) ?_; (intro oi hoi; simp only [List.getElem?_toArray, List.getElem?_cons_succ, List.getElem?_cons_zero] at hoi; obtain rfl := Option.some.inj hoi; clear hoi); intro K hK; go_simp
                refine (tsame_yes _ _ _ _ np S _ (Own.rd tenc_len own9) (Own.rd tenc_len own16) (by rw [HSPL.out]; omega) HSPL.out).mono ?_
                rintro r x66 ⟨rfl, hb⟩
                have hE' := Env.step hb hHeld
                clear hb own9 own16
                refine hK.out _ _ hE' (fun hHeld => ?_)
                clear hK K hE'
                (try simp only [Act.put, List.setIfInBounds_toArray, List.set_cons_zero, List.set_cons_succ])
                refine hTake 18 (by kernel_rfl) (by kernel_rfl) (by kernel_rfl) (by decide) (by assumption) ?_; (intro oi hoi; simp only [List.getElem?_toArray, List.getElem?_cons_succ, List.getElem?_cons_zero] at hoi; obtain rfl := Option.some.inj hoi; clear hoi); refine ⟨rfl, ?_⟩; apply Exists.intro; refine ⟨?_, fun _ _ _ h => h, ?_⟩; (intro w hSw; (try dsimp only at hSw); go_simp; (try with_reducible rfl)); (try simp only [Act.put, List.setIfInBounds_toArray, List.set_cons_zero, List.set_cons_succ]); refine hTake 19 (by kernel_rfl) (by kernel_rfl) (by kernel_rfl) (by decide) (by assumption) ?_; (intro oi hoi; simp only [List.getElem?_toArray, List.getElem?_cons_succ, List.getElem?_cons_zero] at hoi; obtain rfl := Option.some.inj hoi; clear hoi); refine ⟨rfl, ?_⟩; apply Exists.intro; refine ⟨?_, fun _ _ _ h => h, ?_⟩; (intro w hSw; (try dsimp only at hSw); go_simp; (try with_reducible rfl)); (try simp only [Act.put, List.setIfInBounds_toArray, List.set_cons_zero, List.set_cons_succ])
                refine wpAnyH_done (by kernel_rfl) ?_ _
                go_wp2_with fail
                go_meet
                exact ⟨rfl, hHeld.1⟩
        case rest =>
          obtain ⟨rfl, hbc⟩ := hcut
          have hLc := hL.below hbc
          have hLd := hLc
          (repeat unfold Loc at hLd)
          have hBc : Below w.heap.size w wc := below_then hB4 hbc
          have hsz := hBc.size
          have own3c := own3.below hbc
          have hbc' := hbc
          have hP0 := HP0.out
          by_cases hn0 : 0 < n
          · obtain ⟨x0, hx0⟩ : ∃ x, l[0]? = some x := ⟨_, List.getElem?_eq_getElem (by rw [← HN.out]; exact hn0)⟩
            rw [getD_some hx0, ← HN.out] at hP0
            obtain ⟨b, off, rfl, hbB, c1, c2, c3'⟩ := tm_cells (rd_grown lr hBc) hx0
            simp only [Nat.zero_mul, Nat.add_zero] at c1 c2 c3'
            have b5 : decide ((0 : Int) < (n : Int)) = true := by simp; omega
            have b5' : decide (0 < n) = true := by simp [hn0]
            have j3 : (0 : Int) < (n : Int) := by omega
            obtain ⟨lE, hE, hR0⟩ := Env.abs (w0 := wc) (below_new (Below.refl _ _) _) (hLc.new [.int .i64 s, .int .i64 e, .int .i64 k] 34)
            have hR0' := Lib.hid hR0
            (repeat unfold Loc at hR0)
            have hR : ∀ X, Env wc lE X → X.cell? ⟨b, off, none⟩ = some (.int .i64 x0.s) ∧ X.cell? ⟨b, off + 1, none⟩ = some (.int .i64 x0.e) ∧ X.cell? ⟨b, off + 2, none⟩ = some (.int .i64 x0.k) := fun X hX =>
              ⟨(hX.1.cell (p := ⟨b, off, none⟩) hbB).trans c1, (hX.1.cell (p := ⟨b, off + 1, none⟩) hbB).trans c2, (hX.1.cell (p := ⟨b, off + 2, none⟩) hbB).trans c3'⟩
            have hRR := Lib.hid hR
            by_cases hlt : tlt ⟨s, e, k⟩ x0 = true
            · rw [if_neg (by rw [hlt]; simp)] at hP0
              have HP1 := Lib.hid hP0
              clear hP0 hx0 c1 c2 c3' own3 hL hB4 hbc
              go_wp2_with fail
              refine wp_region_held_drew (S := Env wc lE) (by kernel_rfl) (by (first | assumption | exact Env.step (by assumption) (by assumption) | exact Env.old (by assumption) _ | exact Env.drew hE | exact hE | exact Env.drew (by assumption) | exact Env.drew (Env.old (by assumption) _) | ((repeat first | refine Env.far0 ?_ (by assumption) _ | refine Env.far1 ?_ (by assumption) _ | refine Env.farA ?_ (by assumption) _); assumption))) (fun hHeld => ?_)
              refine hTake 0 (by kernel_rfl) (by kernel_rfl) (by kernel_rfl) (by decide) (by assumption) ?_; (intro oi hoi; simp only [List.getElem?_toArray, List.getElem?_cons_zero] at hoi; obtain rfl := Option.some.inj hoi; clear hoi); refine ⟨rfl, ?_⟩; apply Exists.intro; refine ⟨?_, fun _ _ _ h => h, ?_⟩; (intro w hSw; (try dsimp only at hSw); go_simp; (try with_reducible rfl)); (try simp only [Act.put, List.setIfInBounds_toArray, List.set_cons_zero, List.set_cons_succ]); refine hTake 1 (by kernel_rfl) (by kernel_rfl) (by kernel_rfl) (by decide) (by assumption) ?_; (intro oi hoi; simp only [List.getElem?_toArray, List.getElem?_cons_succ, List.getElem?_cons_zero] at hoi; obtain rfl := Option.some.inj hoi; clear hoi); refine ⟨rfl, ?_⟩; apply Exists.intro; refine ⟨?_, fun _ _ _ h => h, ?_⟩; (intro w hSw; (try dsimp only at hSw); go_simp; (try with_reducible rfl)); (try simp only [Act.put, List.setIfInBounds_toArray, List.set_cons_zero, List.set_cons_succ]); refine hTake 2 (by kernel_rfl) (by kernel_rfl) (by kernel_rfl) (by decide) (by assumption) ?_; (intro oi hoi; simp only [List.getElem?_toArray, List.getElem?_cons_succ, List.getElem?_cons_zero] at hoi; obtain rfl := Option.some.inj hoi; clear hoi); refine ⟨rfl, ?_⟩; apply Exists.intro; refine ⟨?_, fun _ _ _ h => h, ?_⟩; (intro w hSw; (try dsimp only at hSw); go_simp; (try with_reducible rfl)); (try simp only [Act.put, List.setIfInBounds_toArray, List.set_cons_zero, List.set_cons_succ]); refine hTake 3 (by kernel_rfl) (by kernel_rfl) (by kernel_rfl) (by decide) (by assumption) ?_; (intro oi hoi; simp only [List.getElem?_toArray, List.getElem?_cons_succ, List.getElem?_cons_zero] at hoi; obtain rfl := Option.some.inj hoi; clear hoi); refine ⟨rfl, ?_⟩; apply Exists.intro; refine ⟨?_, fun _ _ _ h => h, ?_⟩; (intro w hSw; (try dsimp only at hSw); go_simp; (try with_reducible rfl)); (try simp only [Act.put, List.setIfInBounds_toArray, List.set_cons_zero, List.set_cons_succ]); refine hTake 4 (by kernel_rfl) (by kernel_rfl) (by kernel_rfl) (by decide) (by assumption) ?_; (intro oi hoi; simp only [List.getElem?_toArray, List.getElem?_cons_succ, List.getElem?_cons_zero] at hoi; obtain rfl := Option.some.inj hoi; clear hoi); refine ⟨rfl, ?_⟩; apply Exists.intro; refine ⟨?_, fun _ _ _ h => h, ?_⟩; (intro w hSw; (try dsimp only at hSw); go_simp; (try with_reducible rfl)); (try simp only [Act.put, List.setIfInBounds_toArray, List.set_cons_zero, List.set_cons_succ]); refine hTake 5 (by kernel_rfl) (by kernel_rfl) (by kernel_rfl) (by decide) (by assumption) ?_; (intro oi hoi; simp only [List.getElem?_toArray, List.getElem?_cons_succ, List.getElem?_cons_zero] at hoi; obtain rfl := Option.some.inj hoi; clear hoi); refine ⟨rfl, ?_⟩; apply Exists.intro; refine ⟨?_, fun _ _ _ h => h, ?_⟩; (intro w hSw; (try dsimp only at hSw); go_simp; (try with_reducible rfl)); (try simp only [Act.put, List.setIfInBounds_toArray, List.set_cons_zero, List.set_cons_succ]); refine hTake 6 (by kernel_rfl) (by kernel_rfl) (by kernel_rfl) (by decide) (by assumption) ?_; (intro oi hoi; simp only [List.getElem?_toArray, List.getElem?_cons_succ, List.getElem?_cons_zero] at hoi; obtain rfl := Option.some.inj hoi; clear hoi); refine ⟨rfl, ?_⟩; apply Exists.intro; refine ⟨?_, fun _ _ _ h => h, ?_⟩; (intro w hSw; (try dsimp only at hSw); go_simp; (try with_reducible rfl)); (try simp only [Act.put, List.setIfInBounds_toArray, List.set_cons_zero, List.set_cons_succ]); refine hTake 7 (by kernel_rfl) (by kernel_rfl) (by kernel_rfl) (by decide) (by assumption) ?_; (intro oi hoi; simp only [List.getElem?_toArray, List.getElem?_cons_succ, List.getElem?_cons_zero] at hoi; obtain rfl := Option.some.inj hoi; clear hoi); refine ⟨rfl, ?_⟩; apply Exists.intro; refine ⟨?_, fun _ _ _ h => h, ?_⟩; (intro w hSw; (try dsimp only at hSw); go_simp; (try with_reducible rfl)); (try simp only [Act.put, List.setIfInBounds_toArray, List.set_cons_zero, List.set_cons_succ])
              refine hOnly 8 (by kernel_rfl) (by decide) ?_; (intro oi hoi; simp only [List.getElem?_toArray, List.getElem?_cons_succ, List.getElem?_cons_zero] at hoi; obtain rfl := Option.some.inj hoi; clear hoi); intro K hK; go_simp
              go_at_call 29
              refine (rtless_any ⟨s, e, k⟩ x0 _).mono ?_
              rw [hlt]
              rintro r w6 ⟨rfl, hb6⟩
              have hEhb6 := Env.step hb6 (by assumption); (try (have hqhb6 := (by with_reducible first | exact Loc.below hb6 (Loc.new (Loc.nil _) _ _) | exact Loc.below hb6 (Loc.drew (Loc.new (Loc.nil _) _ _)) | exact Loc.below hb6 (by assumption : Loc _ [_])); (repeat rw [World.size_drew] at hqhb6); (repeat rw [World.size_alloc] at hqhb6); have hrhb6 := hqhb6; (repeat unfold Loc at hrhb6)))
              (refine hK.out _ _ (by (first | assumption | exact Env.step (by assumption) (by assumption) | exact Env.old (by assumption) _ | exact Env.drew hE | exact hE | exact Env.drew (by assumption) | exact Env.drew (Env.old (by assumption) _) | ((repeat first | refine Env.far0 ?_ (by assumption) _ | refine Env.far1 ?_ (by assumption) _ | refine Env.farA ?_ (by assumption) _); assumption))) (fun hHeld => ?_); clear hK K; (try simp only [Act.put, List.setIfInBounds_toArray, List.set_cons_zero, List.set_cons_succ]))
              refine hTake 9 (by kernel_rfl) (by kernel_rfl) (by kernel_rfl) (by decide) (by assumption) ?_; (intro oi hoi; simp only [List.getElem?_toArray, List.getElem?_cons_succ, List.getElem?_cons_zero] at hoi; obtain rfl := Option.some.inj hoi; clear hoi); refine ⟨rfl, ?_⟩; apply Exists.intro; refine ⟨?_, fun _ _ _ h => h, ?_⟩; (intro w hSw; (try dsimp only at hSw); go_simp; (try with_reducible rfl)); (try simp only [Act.put, List.setIfInBounds_toArray, List.set_cons_zero, List.set_cons_succ]); refine hTake 10 (by kernel_rfl) (by kernel_rfl) (by kernel_rfl) (by decide) (by assumption) ?_; (intro oi hoi; simp only [List.getElem?_toArray, List.getElem?_cons_succ, List.getElem?_cons_zero] at hoi; obtain rfl := Option.some.inj hoi; clear hoi); refine ⟨rfl, ?_⟩; apply Exists.intro; refine ⟨?_, fun _ _ _ h => h, ?_⟩; (intro w hSw; (try dsimp only at hSw); go_simp; (try with_reducible rfl)); (try simp only [Act.put, List.setIfInBounds_toArray, List.set_cons_zero, List.set_cons_succ])
              refine wpAnyH_done (by kernel_rfl) ?_ _
              have hLX := hR0'.out _ hHeld
              (repeat unfold Loc at hLX)
              have hbX := hHeld.1
              obtain ⟨q1, q2, q3, -⟩ := own_tm (own3c.below hbX) HP1.out
              rw [Nat.zero_mul] at q1
              rw [Nat.zero_mul, Nat.zero_add] at q2 q3
              clear hR hR0 hE hLd
              go_wp2_with fail
              (refine wp_region_quiet_lit (by kernel_rfl) (by kernel_rfl) ?_; (repeat (any_goals (first | go_big_quiet_step (fail) | quiet_step (fail)))); all_goals (refine wpQuiet_nil ?_; intro _ hw'; obtain ⟨nq, hw''⟩ := hw'; subst hw''))
              go_wp2
              go_ret
              exact ⟨rfl, (by repeat (first | with_reducible exact Below.refl _ _ | with_reducible assumption | (with_reducible exact Env.below (by assumption)) | (with_reducible refine below_new ?_ _) | (with_reducible refine below_drew ?_) | (with_reducible refine below_drewN ?_ _) | (with_reducible refine below_put ?_ ?_ _; rotate_left 1; (dsimp only; omega)) | (with_reducible refine below_then ?_ (by assumption))))⟩
            · have hlt' : tlt ⟨s, e, k⟩ x0 = false := by simpa using hlt
              rw [if_pos ⟨hn0, hlt'⟩] at hP0
              have HP1 := Lib.hid hP0
              clear hP0 hx0 c1 c2 c3' own3 hL hB4 hbc
              go_wp2_with fail
              refine wp_region_held_drew (S := Env wc lE) (by kernel_rfl) (by (first | assumption | exact Env.step (by assumption) (by assumption) | exact Env.old (by assumption) _ | exact Env.drew hE | exact hE | exact Env.drew (by assumption) | exact Env.drew (Env.old (by assumption) _) | ((repeat first | refine Env.far0 ?_ (by assumption) _ | refine Env.far1 ?_ (by assumption) _ | refine Env.farA ?_ (by assumption) _); assumption))) (fun hHeld => ?_)
              refine hTake 0 (by kernel_rfl) (by kernel_rfl) (by kernel_rfl) (by decide) (by assumption) ?_; (intro oi hoi; simp only [List.getElem?_toArray, List.getElem?_cons_zero] at hoi; obtain rfl := Option.some.inj hoi; clear hoi); refine ⟨rfl, ?_⟩; apply Exists.intro; refine ⟨?_, fun _ _ _ h => h, ?_⟩; (intro w hSw; (try dsimp only at hSw); go_simp; (try with_reducible rfl)); (try simp only [Act.put, List.setIfInBounds_toArray, List.set_cons_zero, List.set_cons_succ]); refine hTake 1 (by kernel_rfl) (by kernel_rfl) (by kernel_rfl) (by decide) (by assumption) ?_; (intro oi hoi; simp only [List.getElem?_toArray, List.getElem?_cons_succ, List.getElem?_cons_zero] at hoi; obtain rfl := Option.some.inj hoi; clear hoi); refine ⟨rfl, ?_⟩; apply Exists.intro; refine ⟨?_, fun _ _ _ h => h, ?_⟩; (intro w hSw; (try dsimp only at hSw); go_simp; (try with_reducible rfl)); (try simp only [Act.put, List.setIfInBounds_toArray, List.set_cons_zero, List.set_cons_succ]); refine hTake 2 (by kernel_rfl) (by kernel_rfl) (by kernel_rfl) (by decide) (by assumption) ?_; (intro oi hoi; simp only [List.getElem?_toArray, List.getElem?_cons_succ, List.getElem?_cons_zero] at hoi; obtain rfl := Option.some.inj hoi; clear hoi); refine ⟨rfl, ?_⟩; apply Exists.intro; refine ⟨?_, fun _ _ _ h => h, ?_⟩; (intro w hSw; (try dsimp only at hSw); go_simp; (try with_reducible rfl)); (try simp only [Act.put, List.setIfInBounds_toArray, List.set_cons_zero, List.set_cons_succ]); refine hTake 3 (by kernel_rfl) (by kernel_rfl) (by kernel_rfl) (by decide) (by assumption) ?_; (intro oi hoi; simp only [List.getElem?_toArray, List.getElem?_cons_succ, List.getElem?_cons_zero] at hoi; obtain rfl := Option.some.inj hoi; clear hoi); refine ⟨rfl, ?_⟩; apply Exists.intro; refine ⟨?_, fun _ _ _ h => h, ?_⟩; (intro w hSw; (try dsimp only at hSw); go_simp; (try with_reducible rfl)); (try simp only [Act.put, List.setIfInBounds_toArray, List.set_cons_zero, List.set_cons_succ]); refine hTake 4 (by kernel_rfl) (by kernel_rfl) (by kernel_rfl) (by decide) (by assumption) ?_; (intro oi hoi; simp only [List.getElem?_toArray, List.getElem?_cons_succ, List.getElem?_cons_zero] at hoi; obtain rfl := Option.some.inj hoi; clear hoi); refine ⟨rfl, ?_⟩; apply Exists.intro; refine ⟨?_, fun _ _ _ h => h, ?_⟩; (intro w hSw; (try dsimp only at hSw); go_simp; (try with_reducible rfl)); (try simp only [Act.put, List.setIfInBounds_toArray, List.set_cons_zero, List.set_cons_succ]); refine hTake 5 (by kernel_rfl) (by kernel_rfl) (by kernel_rfl) (by decide) (by assumption) ?_; (intro oi hoi; simp only [List.getElem?_toArray, List.getElem?_cons_succ, List.getElem?_cons_zero] at hoi; obtain rfl := Option.some.inj hoi; clear hoi); refine ⟨rfl, ?_⟩; apply Exists.intro; refine ⟨?_, fun _ _ _ h => h, ?_⟩; (intro w hSw; (try dsimp only at hSw); go_simp; (try with_reducible rfl)); (try simp only [Act.put, List.setIfInBounds_toArray, List.set_cons_zero, List.set_cons_succ]); refine hTake 6 (by kernel_rfl) (by kernel_rfl) (by kernel_rfl) (by decide) (by assumption) ?_; (intro oi hoi; simp only [List.getElem?_toArray, List.getElem?_cons_succ, List.getElem?_cons_zero] at hoi; obtain rfl := Option.some.inj hoi; clear hoi); refine ⟨rfl, ?_⟩; apply Exists.intro; refine ⟨?_, fun _ _ _ h => h, ?_⟩; (intro w hSw; (try dsimp only at hSw); go_simp; (try with_reducible rfl)); (try simp only [Act.put, List.setIfInBounds_toArray, List.set_cons_zero, List.set_cons_succ]); refine hTake 7 (by kernel_rfl) (by kernel_rfl) (by kernel_rfl) (by decide) (by assumption) ?_; (intro oi hoi; simp only [List.getElem?_toArray, List.getElem?_cons_succ, List.getElem?_cons_zero] at hoi; obtain rfl := Option.some.inj hoi; clear hoi); refine ⟨rfl, ?_⟩; apply Exists.intro; refine ⟨?_, fun _ _ _ h => h, ?_⟩; (intro w hSw; (try dsimp only at hSw); go_simp; (try with_reducible rfl)); (try simp only [Act.put, List.setIfInBounds_toArray, List.set_cons_zero, List.set_cons_succ])
              refine hOnly 8 (by kernel_rfl) (by decide) ?_; (intro oi hoi; simp only [List.getElem?_toArray, List.getElem?_cons_succ, List.getElem?_cons_zero] at hoi; obtain rfl := Option.some.inj hoi; clear hoi); intro K hK; go_simp
              go_at_call 29
              refine (rtless_any ⟨s, e, k⟩ x0 _).mono ?_
              rw [hlt']
              rintro r w6 ⟨rfl, hb6⟩
              have hEhb6 := Env.step hb6 (by assumption); (try (have hqhb6 := (by with_reducible first | exact Loc.below hb6 (Loc.new (Loc.nil _) _ _) | exact Loc.below hb6 (Loc.drew (Loc.new (Loc.nil _) _ _)) | exact Loc.below hb6 (by assumption : Loc _ [_])); (repeat rw [World.size_drew] at hqhb6); (repeat rw [World.size_alloc] at hqhb6); have hrhb6 := hqhb6; (repeat unfold Loc at hrhb6)))
              (refine hK.out _ _ (by (first | assumption | exact Env.step (by assumption) (by assumption) | exact Env.old (by assumption) _ | exact Env.drew hE | exact hE | exact Env.drew (by assumption) | exact Env.drew (Env.old (by assumption) _) | ((repeat first | refine Env.far0 ?_ (by assumption) _ | refine Env.far1 ?_ (by assumption) _ | refine Env.farA ?_ (by assumption) _); assumption))) (fun hHeld => ?_); clear hK K; (try simp only [Act.put, List.setIfInBounds_toArray, List.set_cons_zero, List.set_cons_succ]))
              refine hTake 9 (by kernel_rfl) (by kernel_rfl) (by kernel_rfl) (by decide) (by assumption) ?_; (intro oi hoi; simp only [List.getElem?_toArray, List.getElem?_cons_succ, List.getElem?_cons_zero] at hoi; obtain rfl := Option.some.inj hoi; clear hoi); refine ⟨rfl, ?_⟩; apply Exists.intro; refine ⟨?_, fun _ _ _ h => h, ?_⟩; (intro w hSw; (try dsimp only at hSw); go_simp; (try with_reducible rfl)); (try simp only [Act.put, List.setIfInBounds_toArray, List.set_cons_zero, List.set_cons_succ]); refine hTake 10 (by kernel_rfl) (by kernel_rfl) (by kernel_rfl) (by decide) (by assumption) ?_; (intro oi hoi; simp only [List.getElem?_toArray, List.getElem?_cons_succ, List.getElem?_cons_zero] at hoi; obtain rfl := Option.some.inj hoi; clear hoi); refine ⟨rfl, ?_⟩; apply Exists.intro; refine ⟨?_, fun _ _ _ h => h, ?_⟩; (intro w hSw; (try dsimp only at hSw); go_simp; (try with_reducible rfl)); (try simp only [Act.put, List.setIfInBounds_toArray, List.set_cons_zero, List.set_cons_succ])
              refine wpAnyH_done (by kernel_rfl) ?_ _
              have hLX := hR0'.out _ hHeld
              (repeat unfold Loc at hLX)
              obtain ⟨r1, r2, r3⟩ := hRR.out _ hHeld
              have hbX := hHeld.1
              obtain ⟨q1, q2, q3, -⟩ := own_tm (own3c.below hbX) HP1.out
              rw [Nat.zero_mul] at q1
              rw [Nat.zero_mul, Nat.zero_add] at q2 q3
              have hgw : g3 ≠ wc.heap.size := by have := hbc'.size; omega
              clear hR hR0 hE hLd
              go_wp2_with fail
              (refine wp_region_quiet_lit (by kernel_rfl) (by kernel_rfl) ?_; (repeat (any_goals (first | go_big_quiet_step (fail) | quiet_step (fail)))); all_goals (refine wpQuiet_nil ?_; intro _ hw'; obtain ⟨nq, hw''⟩ := hw'; subst hw''))
              go_wp2
              go_ret
              exact ⟨rfl, (by repeat (first | with_reducible exact Below.refl _ _ | with_reducible assumption | (with_reducible exact Env.below (by assumption)) | (with_reducible refine below_new ?_ _) | (with_reducible refine below_drew ?_) | (with_reducible refine below_drewN ?_ _) | (with_reducible refine below_put ?_ ?_ _; rotate_left 1; (dsimp only; omega)) | (with_reducible refine below_then ?_ (by assumption))))⟩
          · rw [if_neg (by rw [← HN.out]; exact fun h => hn0 h.1)] at hP0
            have b5 : decide ((0 : Int) < (n : Int)) = false := by simp; omega
            have b5' : decide (0 < n) = false := by simp [hn0]
            obtain ⟨q1, q2, q3, hg3c⟩ := own_tm own3c hP0
            rw [Nat.zero_mul] at q1
            rw [Nat.zero_mul, Nat.zero_add] at q2 q3
            obtain ⟨lE, hE, hR0⟩ := Env.abs (w0 := wc) (below_new (Below.refl _ _) _) (hLc.new [.int .i64 s, .int .i64 e, .int .i64 k] 34)
            have hR0' := Lib.hid hR0
            (repeat unfold Loc at hR0)
            have HP1 := Lib.hid hP0
            clear hP0 own3 hL hB4 hbc
            go_wp2_with fail
            refine wp_region_held_drew (S := Env wc lE) (by kernel_rfl) (by (first | assumption | exact Env.step (by assumption) (by assumption) | exact Env.old (by assumption) _ | exact Env.drew hE | exact hE | exact Env.drew (by assumption) | exact Env.drew (Env.old (by assumption) _) | ((repeat first | refine Env.far0 ?_ (by assumption) _ | refine Env.far1 ?_ (by assumption) _ | refine Env.farA ?_ (by assumption) _); assumption))) (fun hHeld => ?_)
            refine hTake 0 (by kernel_rfl) (by kernel_rfl) (by kernel_rfl) (by decide) (by assumption) ?_; (intro oi hoi; simp only [List.getElem?_toArray, List.getElem?_cons_zero] at hoi; obtain rfl := Option.some.inj hoi; clear hoi); refine ⟨rfl, ?_⟩; apply Exists.intro; refine ⟨?_, fun _ _ _ h => h, ?_⟩; (intro w hSw; (try dsimp only at hSw); go_simp; (try with_reducible rfl)); (try simp only [Act.put, List.setIfInBounds_toArray, List.set_cons_zero, List.set_cons_succ]); refine hTake 1 (by kernel_rfl) (by kernel_rfl) (by kernel_rfl) (by decide) (by assumption) ?_; (intro oi hoi; simp only [List.getElem?_toArray, List.getElem?_cons_succ, List.getElem?_cons_zero] at hoi; obtain rfl := Option.some.inj hoi; clear hoi); refine ⟨rfl, ?_⟩; apply Exists.intro; refine ⟨?_, fun _ _ _ h => h, ?_⟩; (intro w hSw; (try dsimp only at hSw); go_simp; (try with_reducible rfl)); (try simp only [Act.put, List.setIfInBounds_toArray, List.set_cons_zero, List.set_cons_succ]); refine hTake 2 (by kernel_rfl) (by kernel_rfl) (by kernel_rfl) (by decide) (by assumption) ?_; (intro oi hoi; simp only [List.getElem?_toArray, List.getElem?_cons_succ, List.getElem?_cons_zero] at hoi; obtain rfl := Option.some.inj hoi; clear hoi); refine ⟨rfl, ?_⟩; apply Exists.intro; refine ⟨?_, fun _ _ _ h => h, ?_⟩; (intro w hSw; (try dsimp only at hSw); go_simp; (try with_reducible rfl)); (try simp only [Act.put, List.setIfInBounds_toArray, List.set_cons_zero, List.set_cons_succ]); refine hTake 3 (by kernel_rfl) (by kernel_rfl) (by kernel_rfl) (by decide) (by assumption) ?_; (intro oi hoi; simp only [List.getElem?_toArray, List.getElem?_cons_succ, List.getElem?_cons_zero] at hoi; obtain rfl := Option.some.inj hoi; clear hoi); refine ⟨rfl, ?_⟩; apply Exists.intro; refine ⟨?_, fun _ _ _ h => h, ?_⟩; (intro w hSw; (try dsimp only at hSw); go_simp; (try with_reducible rfl)); (try simp only [Act.put, List.setIfInBounds_toArray, List.set_cons_zero, List.set_cons_succ])
            refine hSkip 4 (by kernel_rfl) (by kernel_rfl) (by kernel_rfl) (by decide) (by assumption) ?_; (intro oi hoi; simp only [List.getElem?_toArray, List.getElem?_cons_succ, List.getElem?_cons_zero] at hoi; obtain rfl := Option.some.inj hoi; clear hoi); refine ⟨rfl, fun _ _ _ h => h, ?_⟩; (try simp only [Act.put, List.setIfInBounds_toArray, List.set_cons_zero, List.set_cons_succ]); refine hSkip 5 (by kernel_rfl) (by kernel_rfl) (by kernel_rfl) (by decide) (by assumption) ?_; (intro oi hoi; simp only [List.getElem?_toArray, List.getElem?_cons_succ, List.getElem?_cons_zero] at hoi; obtain rfl := Option.some.inj hoi; clear hoi); refine ⟨rfl, fun _ _ _ h => h, ?_⟩; (try simp only [Act.put, List.setIfInBounds_toArray, List.set_cons_zero, List.set_cons_succ]); refine hSkip 6 (by kernel_rfl) (by kernel_rfl) (by kernel_rfl) (by decide) (by assumption) ?_; (intro oi hoi; simp only [List.getElem?_toArray, List.getElem?_cons_succ, List.getElem?_cons_zero] at hoi; obtain rfl := Option.some.inj hoi; clear hoi); refine ⟨rfl, fun _ _ _ h => h, ?_⟩; (try simp only [Act.put, List.setIfInBounds_toArray, List.set_cons_zero, List.set_cons_succ]); refine hSkip 7 (by kernel_rfl) (by kernel_rfl) (by kernel_rfl) (by decide) (by assumption) ?_; (intro oi hoi; simp only [List.getElem?_toArray, List.getElem?_cons_succ, List.getElem?_cons_zero] at hoi; obtain rfl := Option.some.inj hoi; clear hoi); refine ⟨rfl, fun _ _ _ h => h, ?_⟩; (try simp only [Act.put, List.setIfInBounds_toArray, List.set_cons_zero, List.set_cons_succ]); refine hSkip 8 (by kernel_rfl) (by kernel_rfl) (by kernel_rfl) (by decide) (by assumption) ?_; (intro oi hoi; simp only [List.getElem?_toArray, List.getElem?_cons_succ, List.getElem?_cons_zero] at hoi; obtain rfl := Option.some.inj hoi; clear hoi); refine ⟨rfl, fun _ _ _ h => h, ?_⟩; (try simp only [Act.put, List.setIfInBounds_toArray, List.set_cons_zero, List.set_cons_succ]); refine hSkip 9 (by kernel_rfl) (by kernel_rfl) (by kernel_rfl) (by decide) (by assumption) ?_; (intro oi hoi; simp only [List.getElem?_toArray, List.getElem?_cons_succ, List.getElem?_cons_zero] at hoi; obtain rfl := Option.some.inj hoi; clear hoi); refine ⟨rfl, fun _ _ _ h => h, ?_⟩; (try simp only [Act.put, List.setIfInBounds_toArray, List.set_cons_zero, List.set_cons_succ])
            refine hTake 10 (by kernel_rfl) (by kernel_rfl) (by kernel_rfl) (by decide) (by assumption) ?_; (intro oi hoi; simp only [List.getElem?_toArray, List.getElem?_cons_succ, List.getElem?_cons_zero] at hoi; obtain rfl := Option.some.inj hoi; clear hoi); refine ⟨rfl, ?_⟩; apply Exists.intro; refine ⟨?_, fun _ _ _ h => h, ?_⟩; (intro w hSw; (try dsimp only at hSw); go_simp; (try with_reducible rfl)); (try simp only [Act.put, List.setIfInBounds_toArray, List.set_cons_zero, List.set_cons_succ])
            refine wpAnyH_done (by kernel_rfl) ?_ _
            have hLX := hR0'.out _ hHeld
            (repeat unfold Loc at hLX)
            have hbX := hHeld.1
            obtain ⟨q1, q2, q3, -⟩ := own_tm (own3c.below hbX) HP1.out
            rw [Nat.zero_mul] at q1
            rw [Nat.zero_mul, Nat.zero_add] at q2 q3
            clear hR0 hE hLd
            go_wp2_with fail
            (refine wp_region_quiet_lit (by kernel_rfl) (by kernel_rfl) ?_; (repeat (any_goals (first | go_big_quiet_step (fail) | quiet_step (fail)))); all_goals (refine wpQuiet_nil ?_; intro _ hw'; obtain ⟨nq, hw''⟩ := hw'; subst hw''))
            go_wp2
            go_ret
            exact ⟨rfl, (by repeat (first | with_reducible exact Below.refl _ _ | with_reducible assumption | (with_reducible exact Env.below (by assumption)) | (with_reducible refine below_new ?_ _) | (with_reducible refine below_drew ?_) | (with_reducible refine below_drewN ?_ _) | (with_reducible refine below_put ?_ ?_ _; rotate_left 1; (dsimp only; omega)) | (with_reducible refine below_then ?_ (by assumption))))⟩
      · have b3 : decide (tok ⟨s, e, k⟩) = false := by simp [hok]
        clear hok h0 hz hn' hpu
        go_enter Try.func4, Try.ntmps4
        go_wp2_with (first
          | (go_at_call 21; refine (alive18 _).mono ?_; rintro r w1 ⟨rfl, hb1⟩; replace hL := (by with_reducible first | exact hL.below hb1 | exact (hL.new _ _).below hb1 | exact ((hL.new _ _).new _ _).below hb1 | exact (((hL.new _ _).new _ _).new _ _).below hb1 | exact ((((hL.new _ _).new _ _).new _ _).new _ _).below hb1); (repeat rw [World.size_alloc] at hL); have hF := hL; (repeat unfold Loc at hF))
          | (go_at_call 22; refine (HCK.out _ (rd_grown lr (by repeat (first | with_reducible exact Below.refl _ _ | with_reducible assumption | (with_reducible exact Env.below (by assumption)) | (with_reducible refine below_new ?_ _) | (with_reducible refine below_drew ?_) | (with_reducible refine below_drewN ?_ _) | (with_reducible refine below_put ?_ ?_ _; rotate_left 1; (dsimp only; omega)) | (with_reducible refine below_then ?_ (by assumption)))))).mono ?_; rintro r w2 ⟨rfl, hb2⟩; replace hL := (by with_reducible first | exact hL.below hb2 | exact (hL.new _ _).below hb2 | exact ((hL.new _ _).new _ _).below hb2 | exact (((hL.new _ _).new _ _).new _ _).below hb2 | exact ((((hL.new _ _).new _ _).new _ _).new _ _).below hb2); (repeat rw [World.size_alloc] at hL); have hF := hL; (repeat unfold Loc at hF))
          | (go_at_call 27; refine (rtright_any ⟨s, e, k⟩ _).mono ?_; rw [b3]; rintro r w3 ⟨rfl, hb3⟩; replace hL := (by with_reducible first | exact hL.below hb3 | exact (hL.new _ _).below hb3 | exact ((hL.new _ _).new _ _).below hb3 | exact (((hL.new _ _).new _ _).new _ _).below hb3 | exact ((((hL.new _ _).new _ _).new _ _).new _ _).below hb3); (repeat rw [World.size_alloc] at hL); have hF := hL; (repeat unfold Loc at hF)))
        go_ret
        exact ⟨rfl, (by repeat (first | with_reducible exact Below.refl _ _ | with_reducible assumption | (with_reducible exact Env.below (by assumption)) | (with_reducible refine below_new ?_ _) | (with_reducible refine below_drew ?_) | (with_reducible refine below_drewN ?_ _) | (with_reducible refine below_put ?_ ?_ _; rotate_left 1; (dsimp only; omega)) | (with_reducible refine below_then ?_ (by assumption))))⟩
    · have b2 : (z != 0) = true := by simp [h0]
      clear h0 hz hn' hpu
      go_enter Try.func4, Try.ntmps4
      go_wp2_with (first
        | (go_at_call 21; refine (alive18 _).mono ?_; rintro r w1 ⟨rfl, hb1⟩; replace hL := (by with_reducible first | exact hL.below hb1 | exact (hL.new _ _).below hb1 | exact ((hL.new _ _).new _ _).below hb1 | exact (((hL.new _ _).new _ _).new _ _).below hb1 | exact ((((hL.new _ _).new _ _).new _ _).new _ _).below hb1); (repeat rw [World.size_alloc] at hL); have hF := hL; (repeat unfold Loc at hF))
        | (go_at_call 22; refine (HCK.out _ (rd_grown lr (by repeat (first | with_reducible exact Below.refl _ _ | with_reducible assumption | (with_reducible exact Env.below (by assumption)) | (with_reducible refine below_new ?_ _) | (with_reducible refine below_drew ?_) | (with_reducible refine below_drewN ?_ _) | (with_reducible refine below_put ?_ ?_ _; rotate_left 1; (dsimp only; omega)) | (with_reducible refine below_then ?_ (by assumption)))))).mono ?_; rintro r w2 ⟨rfl, hb2⟩; replace hL := (by with_reducible first | exact hL.below hb2 | exact (hL.new _ _).below hb2 | exact ((hL.new _ _).new _ _).below hb2 | exact (((hL.new _ _).new _ _).new _ _).below hb2 | exact ((((hL.new _ _).new _ _).new _ _).new _ _).below hb2); (repeat rw [World.size_alloc] at hL); have hF := hL; (repeat unfold Loc at hF)))
      go_ret
      exact ⟨rfl, (by repeat (first | with_reducible exact Below.refl _ _ | with_reducible assumption | (with_reducible exact Env.below (by assumption)) | (with_reducible refine below_new ?_ _) | (with_reducible refine below_drew ?_) | (with_reducible refine below_drewN ?_ _) | (with_reducible refine below_put ?_ ?_ _; rotate_left 1; (dsimp only; omega)) | (with_reducible refine below_then ?_ (by assumption))))⟩
end Go.Proofs.Ytffehibdeogjeaa
