/- The walk of the law TimersFirst (chapter 18). No condition. -/
import Derived.Test.YtffehibdeogjeaaTimersLawKit
namespace Go.Proofs.Ytffehibdeogjeaa
open Go.RowKit

set_option maxHeartbeats 8000000 in
set_option maxRecDepth 100000 in
theorem timersFirst_walk {w : World} (A : Option Addr) (c : Nat) (l : List Tm) (_lc : l.length ≤ c) (_lm : c ≤ maxLen) (_lw : ∀ x ∈ l, tmok x) (lr : Rd tenc 3 w w.heap.size A l) :
    Calls Try.prog 7 #[.slice A l.length c] w fun r w' => r = .returned (.bool true) ∧ Below w.heap.size w w' := by
  obtain ⟨n, hn'⟩ : ∃ n, n = l.length := ⟨_, rfl⟩
  have hfe := fun W (h : Rd tenc 3 W W.heap.size A l) => few_any A c n l W hn'.symm h
  by_cases hf : n ≤ 60 ∧ ∀ t ∈ l, tok t
  · rw [show decide (n ≤ 60 ∧ ∀ t ∈ l, tok t) = true from decide_eq_true hf] at hfe
    obtain ⟨h60, hok⟩ := hf
    obtain ⟨hgo, hv, hpm⟩ := pushGo_ok l [] thv_nil hok (by simp; omega)
    obtain ⟨H, hH⟩ : ∃ H, H = l.foldl (pushL tlt t0) [] := ⟨_, rfl⟩
    rw [← hH] at hgo hv hpm
    rw [List.nil_append] at hpm
    have hHl : H.length = n := by rw [hpm.length_eq, hn']
    have hpd := fun W (h : Rd tenc 3 W W.heap.size A l) => pushed_any A c n l W hn'.symm h (by omega)
    rw [hgo] at hpd
    have hch := fun B d W (h : Rd tenc 3 W W.heap.size B H) => tcheck_any B d H W (by omega) h
    rw [tck_ok hv (by omega), hHl] at hch
    have hso := fun W (h : Rd tenc 3 W W.heap.size A l) => rsorted_any A c l W (by omega) h
    rw [← hn'] at hso ⊢
    obtain ⟨S, hS⟩ : ∃ S, S = sortL tlt t0 l := ⟨_, rfl⟩
    rw [← hS] at hso
    have hSl : S.length = n := by rw [hS, sortL_length tsto, hn']
    have hSs : Srt tlt S := by rw [hS]; exact sortL_srt tsto t0 l
    have hHS : H.Perm S := by rw [hS]; exact hpm.trans (sortL_perm tsto t0 l).symm
    have HFE := Lib.hid hfe; have HPD := Lib.hid hpd; have HCH := Lib.hid hch; have HSO := Lib.hid hso
    have HHL := Lib.hid hHl; have HSL := Lib.hid hSl; have HSS := Lib.hid hSs; have HHS := Lib.hid hHS; have HV := Lib.hid hv
    clear hfe hpd hch hso hHl hSl hSs hHS hv hgo hpm hH hS hok hn'
    go_enter Try.func7, Try.ntmps7
    go_wp2_with (first
      | (go_at_call 21; refine (alive18 _).mono ?_; rintro r w1 ⟨rfl, hb1⟩)
      | (go_at_call 37; refine (HFE.out _ (rd_grown lr (by repeat (first | with_reducible exact Below.refl _ _ | with_reducible assumption | (with_reducible exact Env.below (by assumption)) | (with_reducible refine below_new ?_ _) | (with_reducible refine below_drew ?_) | (with_reducible refine below_drewN ?_ _) | (with_reducible refine below_put ?_ ?_ _; rotate_left 1; (dsimp only; omega)) | (with_reducible refine below_then ?_ (by assumption)))))).mono ?_; rintro r w2 ⟨rfl, hb2⟩)
      | (go_at_call 38; refine (HPD.out _ (rd_grown lr (by repeat (first | with_reducible exact Below.refl _ _ | with_reducible assumption | (with_reducible exact Env.below (by assumption)) | (with_reducible refine below_new ?_ _) | (with_reducible refine below_drew ?_) | (with_reducible refine below_drewN ?_ _) | (with_reducible refine below_put ?_ ?_ _; rotate_left 1; (dsimp only; omega)) | (with_reducible refine below_then ?_ (by assumption)))))).mono ?_; rintro r w3 ⟨v3, rfl, hown3, hb3⟩; obtain ⟨A3, c3, rfl, -⟩ := own_shape_n hown3 HHL.out)
      | (go_at_call 24; refine (HCH.out _ _ _ (Own.rd tenc_len hown3)).mono ?_; rintro r w4 ⟨rfl, hb4⟩)
      | (go_at_call 26; refine (HSO.out _ (rd_grown lr (by repeat (first | with_reducible exact Below.refl _ _ | with_reducible assumption | (with_reducible exact Env.below (by assumption)) | (with_reducible refine below_new ?_ _) | (with_reducible refine below_drew ?_) | (with_reducible refine below_drewN ?_ _) | (with_reducible refine below_put ?_ ?_ _; rotate_left 1; (dsimp only; omega)) | (with_reducible refine below_then ?_ (by assumption)))))).mono ?_; rintro r w5 ⟨v5, rfl, hown5, hb5⟩; obtain ⟨A5, c5, rfl, -⟩ := own_shape_n hown5 HSL.out))
    have hb05 : Below w.heap.size w w5 := (by repeat (first | with_reducible exact Below.refl _ _ | with_reducible assumption | (with_reducible exact Env.below (by assumption)) | (with_reducible refine below_new ?_ _) | (with_reducible refine below_drew ?_) | (with_reducible refine below_drewN ?_ _) | (with_reducible refine below_put ?_ ?_ _; rotate_left 1; (dsimp only; omega)) | (with_reducible refine below_then ?_ (by assumption))))
    have hownH := (hown3.below (below_then hb4 hb5)).mono (base' := w.heap.size) (by have := hb1.size; have := hb2.size; omega)
    have hrd5 := Own.rd tenc_len hown5
    clear hown3 hown5 hb1 hb2 hb3 hb4 hb5
    go_wp2_with fail
    go_loopw [4, 7] (fun h i wr => ∃ (k m ch : Nat) (Ah : Option Addr) (hs : List Tm), k + m = n ∧ i = .int .i64 k ∧ h = .slice Ah m ch ∧ hs.length = m ∧ Own tenc 3 wr w.heap.size 34 (.slice Ah m ch) hs ∧ thv hs ∧ hs.Perm (S.drop k) ∧ Below w5.heap.size w5 wr) (fun h _ _ => lenV h)
    case atStart => exact ⟨0, n, c3, A3, H, by omega, rfl, rfl, HHL.out, hownH, HV.out, by simpa using HHS.out, Below.refl _ _⟩
    case round =>
      obtain ⟨k, m, ch, Ah, hs, hkm, rfl, rfl, hhl, hown, hvh, hperm, hb⟩ := hrel
      have HVH := Lib.hid hvh; have HHL2 := Lib.hid hhl
      clear hownH
      have hpop := fun B d W (h : Rd tenc 3 W W.heap.size B hs) => tpop_any B d hs W (by omega) h
      by_cases h1 : k < n
      · obtain ⟨x, hx⟩ : ∃ x, S[k]? = some x := ⟨_, List.getElem?_eq_getElem (by rw [HSL.out]; exact h1)⟩
        have hdr : S.drop k = x :: S.drop (k + 1) := by
          have hkl : k < S.length := by rw [HSL.out]; exact h1
          rw [List.getElem?_eq_getElem hkl] at hx
          rw [List.drop_eq_getElem_cons hkl, Option.some.inj hx]
        have hss : Srt tlt (x :: S.drop (k + 1)) := by rw [← hdr]; exact List.Pairwise.drop HSS.out
        rw [hdr] at hperm
        obtain ⟨-, e1, e2⟩ := heap_head tsto (d := t0) hvh.2 hperm hss
        rw [tpopl_ok hvh (by omega) (by omega), e1, hhl] at hpop
        obtain ⟨m', hm'⟩ : ∃ m', m = m' + 1 := ⟨m - 1, by omega⟩
        obtain ⟨R, hR⟩ : ∃ R, R = popL tlt t0 hs := ⟨_, rfl⟩
        rw [← hR] at e2 hpop
        have hRl : R.length = m' := by rw [hR, popL_length, hhl, hm']; rfl
        have hvR : thv R := by rw [hR]; exact thv_pop hvh
        have hcR := fun B d W (h : Rd tenc 3 W W.heap.size B R) => tcheck_any B d R W (by omega) h
        rw [tck_ok hvR (by omega), hRl] at hcR
        obtain ⟨x1, x2, x3⟩ := x
        have HPOP := Lib.hid hpop; have HCR := Lib.hid hcR; have HE2 := Lib.hid e2; have HRL := Lib.hid hRl; have HVR := Lib.hid hvR; have HX := Lib.hid hx
        have d1 : decide ((k : Int) < (n : Int)) = true := by simp; omega
        have d1' : decide (k < n) = true := by simp [h1]
        have i1 : (0 : Int) ≤ (k : Int) := by omega
        have i2 : (k : Int) < (n : Int) := by omega
        have i3 : IntKind.i64.wrap ((m : Int) - 1) = (m' : Int) := by rw [IntWalk.i64_in _ (by omega)]; omega
        have i4 : ((m' : Int) != (m' : Int)) = false := by simp
        have hL : Loc wr [] := trivial
        clear hpop hcR e1 e2 hRl hvR hx hdr hss hperm hvh hhl hR
        have HM := Lib.hid hm'
        clear hm'
        obtain ⟨b5, off5, rfl, hb5B, f1, f2, f3⟩ := tm_cells hrd5 HX.out
        dsimp only at f1 f2 f3
        go_wp2_with fail
        go_at_call 32
        refine (HPOP.out _ _ _ (Own.rd tenc_len hown)).mono ?_
        rintro r w6 ⟨v6, rfl, hown6, hb6⟩
        obtain ⟨A6, c6, rfl, -⟩ := own_shape_n hown6 HRL.out
        replace hL := (by with_reducible first | exact hL.below hb6 | exact (hL.new _ _).below hb6 | exact ((hL.new _ _).new _ _).below hb6 | exact (((hL.new _ _).new _ _).new _ _).below hb6 | exact ((((hL.new _ _).new _ _).new _ _).new _ _).below hb6); (repeat rw [World.size_alloc] at hL); have hF := hL; (repeat unfold Loc at hF)
        go_wp2_with fail
        have hE0 := below_then hb hb6
        have hL2 := Loc.new (Loc.nil w6) [.int .i64 x1, .int .i64 x2, .int .i64 x3] 34
        obtain ⟨lE, hE, hR0⟩ := Env.abs (w0 := w6) (below_new (Below.refl _ _) _) hL2
        have hb5C : b5 < w6.heap.size := Nat.lt_of_lt_of_le hb5B hE0.size
        have hR : ∀ X, Env w6 lE X → X.cell? ⟨b5, off5 + k * 3, none⟩ = some (.int .i64 x1) ∧ X.cell? ⟨b5, off5 + k * 3 + 1, none⟩ = some (.int .i64 x2) ∧ X.cell? ⟨b5, off5 + k * 3 + 2, none⟩ = some (.int .i64 x3) := fun X hX =>
          ⟨(hX.1.cell (p := ⟨b5, off5 + k * 3, none⟩) hb5C).trans ((hE0.cell (p := ⟨b5, off5 + k * 3, none⟩) hb5B).trans f1), (hX.1.cell (p := ⟨b5, off5 + k * 3 + 1, none⟩) hb5C).trans ((hE0.cell (p := ⟨b5, off5 + k * 3 + 1, none⟩) hb5B).trans f2), (hX.1.cell (p := ⟨b5, off5 + k * 3 + 2, none⟩) hb5C).trans ((hE0.cell (p := ⟨b5, off5 + k * 3 + 2, none⟩) hb5B).trans f3)⟩
        (repeat unfold Loc at hR0)
        refine wp_region_held_drew (S := Env w6 lE) (by kernel_rfl) (by (first | assumption | exact Env.step (by assumption) (by assumption) | exact Env.old (by assumption) _ | exact Env.drew hE | exact hE | exact Env.drew (by assumption) | exact Env.drew (Env.old (by assumption) _) | ((repeat first | refine Env.far0 ?_ (by assumption) _ | refine Env.far1 ?_ (by assumption) _ | refine Env.farA ?_ (by assumption) _); assumption))) (fun hHeld => ?_)
        refine hTake 0 (by kernel_rfl) (by kernel_rfl) (by kernel_rfl) (by decide) (by assumption) ?_; (intro oi hoi; simp only [List.getElem?_toArray, List.getElem?_cons_zero] at hoi; obtain rfl := Option.some.inj hoi; clear hoi); refine ⟨rfl, ?_⟩; apply Exists.intro; refine ⟨?_, fun _ _ _ h => h, ?_⟩; (intro w hSw; (try dsimp only at hSw); go_simp; (try with_reducible rfl)); (try simp only [Act.put, List.setIfInBounds_toArray, List.set_cons_zero, List.set_cons_succ]); refine hTake 1 (by kernel_rfl) (by kernel_rfl) (by kernel_rfl) (by decide) (by assumption) ?_; (intro oi hoi; simp only [List.getElem?_toArray, List.getElem?_cons_succ, List.getElem?_cons_zero] at hoi; obtain rfl := Option.some.inj hoi; clear hoi); refine ⟨rfl, ?_⟩; apply Exists.intro; refine ⟨?_, fun _ _ _ h => h, ?_⟩; (intro w hSw; (try dsimp only at hSw); go_simp; (try with_reducible rfl)); (try simp only [Act.put, List.setIfInBounds_toArray, List.set_cons_zero, List.set_cons_succ]); refine hTake 2 (by kernel_rfl) (by kernel_rfl) (by kernel_rfl) (by decide) (by assumption) ?_; (intro oi hoi; simp only [List.getElem?_toArray, List.getElem?_cons_succ, List.getElem?_cons_zero] at hoi; obtain rfl := Option.some.inj hoi; clear hoi); refine ⟨rfl, ?_⟩; apply Exists.intro; refine ⟨?_, fun _ _ _ h => h, ?_⟩; (intro w hSw; (try dsimp only at hSw); go_simp; (try with_reducible rfl)); (try simp only [Act.put, List.setIfInBounds_toArray, List.set_cons_zero, List.set_cons_succ]); refine hTake 3 (by kernel_rfl) (by kernel_rfl) (by kernel_rfl) (by decide) (by assumption) ?_; (intro oi hoi; simp only [List.getElem?_toArray, List.getElem?_cons_succ, List.getElem?_cons_zero] at hoi; obtain rfl := Option.some.inj hoi; clear hoi); refine ⟨rfl, ?_⟩; apply Exists.intro; refine ⟨?_, fun _ _ _ h => h, ?_⟩; (intro w hSw; (try dsimp only at hSw); go_simp; (try with_reducible rfl)); (try simp only [Act.put, List.setIfInBounds_toArray, List.set_cons_zero, List.set_cons_succ]); refine hTake 4 (by kernel_rfl) (by kernel_rfl) (by kernel_rfl) (by decide) (by assumption) ?_; (intro oi hoi; simp only [List.getElem?_toArray, List.getElem?_cons_succ, List.getElem?_cons_zero] at hoi; obtain rfl := Option.some.inj hoi; clear hoi); refine ⟨rfl, ?_⟩; apply Exists.intro; refine ⟨?_, fun _ _ _ h => h, ?_⟩; (intro w hSw; (try dsimp only at hSw); go_simp; (try with_reducible rfl)); (try simp only [Act.put, List.setIfInBounds_toArray, List.set_cons_zero, List.set_cons_succ]); refine hTake 5 (by kernel_rfl) (by kernel_rfl) (by kernel_rfl) (by decide) (by assumption) ?_; (intro oi hoi; simp only [List.getElem?_toArray, List.getElem?_cons_succ, List.getElem?_cons_zero] at hoi; obtain rfl := Option.some.inj hoi; clear hoi); refine ⟨rfl, ?_⟩; apply Exists.intro; refine ⟨?_, fun _ _ _ h => h, ?_⟩; (intro w hSw; (try dsimp only at hSw); go_simp; (try with_reducible rfl)); (try simp only [Act.put, List.setIfInBounds_toArray, List.set_cons_zero, List.set_cons_succ]); refine hTake 6 (by kernel_rfl) (by kernel_rfl) (by kernel_rfl) (by decide) (by assumption) ?_; (intro oi hoi; simp only [List.getElem?_toArray, List.getElem?_cons_succ, List.getElem?_cons_zero] at hoi; obtain rfl := Option.some.inj hoi; clear hoi); refine ⟨rfl, ?_⟩; apply Exists.intro; refine ⟨?_, fun _ _ _ h => h, ?_⟩; (intro w hSw; (try dsimp only at hSw); go_simp; (try with_reducible rfl)); (try simp only [Act.put, List.setIfInBounds_toArray, List.set_cons_zero, List.set_cons_succ]); refine hTake 7 (by kernel_rfl) (by kernel_rfl) (by kernel_rfl) (by decide) (by assumption) ?_; (intro oi hoi; simp only [List.getElem?_toArray, List.getElem?_cons_succ, List.getElem?_cons_zero] at hoi; obtain rfl := Option.some.inj hoi; clear hoi); refine ⟨rfl, ?_⟩; apply Exists.intro; refine ⟨?_, fun _ _ _ h => h, ?_⟩; (intro w hSw; (try dsimp only at hSw); go_simp; (try with_reducible rfl)); (try simp only [Act.put, List.setIfInBounds_toArray, List.set_cons_zero, List.set_cons_succ]); refine hTake 8 (by kernel_rfl) (by kernel_rfl) (by kernel_rfl) (by decide) (by assumption) ?_; (intro oi hoi; simp only [List.getElem?_toArray, List.getElem?_cons_succ, List.getElem?_cons_zero] at hoi; obtain rfl := Option.some.inj hoi; clear hoi); refine ⟨rfl, ?_⟩; apply Exists.intro; refine ⟨?_, fun _ _ _ h => h, ?_⟩; (intro w hSw; (try dsimp only at hSw); go_simp; (try with_reducible rfl)); (try simp only [Act.put, List.setIfInBounds_toArray, List.set_cons_zero, List.set_cons_succ]); refine hTake 9 (by kernel_rfl) (by kernel_rfl) (by kernel_rfl) (by decide) (by assumption) ?_; (intro oi hoi; simp only [List.getElem?_toArray, List.getElem?_cons_succ, List.getElem?_cons_zero] at hoi; obtain rfl := Option.some.inj hoi; clear hoi); refine ⟨rfl, ?_⟩; apply Exists.intro; refine ⟨?_, fun _ _ _ h => h, ?_⟩; (intro w hSw; (try dsimp only at hSw); go_simp; (try with_reducible rfl)); (try simp only [Act.put, List.setIfInBounds_toArray, List.set_cons_zero, List.set_cons_succ]); refine hTake 10 (by kernel_rfl) (by kernel_rfl) (by kernel_rfl) (by decide) (by assumption) ?_; (intro oi hoi; simp only [List.getElem?_toArray, List.getElem?_cons_succ, List.getElem?_cons_zero] at hoi; obtain rfl := Option.some.inj hoi; clear hoi); refine ⟨rfl, ?_⟩; apply Exists.intro; refine ⟨?_, fun _ _ _ h => h, ?_⟩; (intro w hSw; (try dsimp only at hSw); go_simp; (try with_reducible rfl)); (try simp only [Act.put, List.setIfInBounds_toArray, List.set_cons_zero, List.set_cons_succ]); refine hTake 11 (by kernel_rfl) (by kernel_rfl) (by kernel_rfl) (by decide) (by assumption) ?_; (intro oi hoi; simp only [List.getElem?_toArray, List.getElem?_cons_succ, List.getElem?_cons_zero] at hoi; obtain rfl := Option.some.inj hoi; clear hoi); refine ⟨rfl, ?_⟩; apply Exists.intro; refine ⟨?_, fun _ _ _ h => h, ?_⟩; (intro w hSw; (try dsimp only at hSw); go_simp; (try with_reducible rfl)); (try simp only [Act.put, List.setIfInBounds_toArray, List.set_cons_zero, List.set_cons_succ]); refine hTake 12 (by kernel_rfl) (by kernel_rfl) (by kernel_rfl) (by decide) (by assumption) ?_; (intro oi hoi; simp only [List.getElem?_toArray, List.getElem?_cons_succ, List.getElem?_cons_zero] at hoi; obtain rfl := Option.some.inj hoi; clear hoi); refine ⟨rfl, ?_⟩; apply Exists.intro; refine ⟨?_, fun _ _ _ h => h, ?_⟩; (intro w hSw; (try dsimp only at hSw); go_simp; (try with_reducible rfl)); (try simp only [Act.put, List.setIfInBounds_toArray, List.set_cons_zero, List.set_cons_succ]); refine hTake 13 (by kernel_rfl) (by kernel_rfl) (by kernel_rfl) (by decide) (by assumption) ?_; (intro oi hoi; simp only [List.getElem?_toArray, List.getElem?_cons_succ, List.getElem?_cons_zero] at hoi; obtain rfl := Option.some.inj hoi; clear hoi); refine ⟨rfl, ?_⟩; apply Exists.intro; refine ⟨?_, fun _ _ _ h => h, ?_⟩; (intro w hSw; (try dsimp only at hSw); go_simp; (try with_reducible rfl)); (try simp only [Act.put, List.setIfInBounds_toArray, List.set_cons_zero, List.set_cons_succ]); refine hTake 14 (by kernel_rfl) (by kernel_rfl) (by kernel_rfl) (by decide) (by assumption) ?_; (intro oi hoi; simp only [List.getElem?_toArray, List.getElem?_cons_succ, List.getElem?_cons_zero] at hoi; obtain rfl := Option.some.inj hoi; clear hoi); refine ⟨rfl, ?_⟩; apply Exists.intro; refine ⟨?_, fun _ _ _ h => h, ?_⟩; (intro w hSw; (try dsimp only at hSw); go_simp; (try with_reducible rfl)); (try simp only [Act.put, List.setIfInBounds_toArray, List.set_cons_zero, List.set_cons_succ]); refine hTake 15 (by kernel_rfl) (by kernel_rfl) (by kernel_rfl) (by decide) (by assumption) ?_; (intro oi hoi; simp only [List.getElem?_toArray, List.getElem?_cons_succ, List.getElem?_cons_zero] at hoi; obtain rfl := Option.some.inj hoi; clear hoi); refine ⟨rfl, ?_⟩; apply Exists.intro; refine ⟨?_, fun _ _ _ h => h, ?_⟩; (intro w hSw; (try dsimp only at hSw); go_simp; (try with_reducible rfl)); (try simp only [Act.put, List.setIfInBounds_toArray, List.set_cons_zero, List.set_cons_succ]); refine hTake 16 (by kernel_rfl) (by kernel_rfl) (by kernel_rfl) (by decide) (by assumption) ?_; (intro oi hoi; simp only [List.getElem?_toArray, List.getElem?_cons_succ, List.getElem?_cons_zero] at hoi; obtain rfl := Option.some.inj hoi; clear hoi); refine ⟨rfl, ?_⟩; apply Exists.intro; refine ⟨?_, fun _ _ _ h => h, ?_⟩; (intro w hSw; (try dsimp only at hSw); go_simp; (try with_reducible rfl)); (try simp only [Act.put, List.setIfInBounds_toArray, List.set_cons_zero, List.set_cons_succ]); refine hTake 17 (by kernel_rfl) (by kernel_rfl) (by kernel_rfl) (by decide) (by assumption) ?_; (intro oi hoi; simp only [List.getElem?_toArray, List.getElem?_cons_succ, List.getElem?_cons_zero] at hoi; obtain rfl := Option.some.inj hoi; clear hoi); refine ⟨rfl, ?_⟩; apply Exists.intro; refine ⟨?_, fun _ _ _ h => h, ?_⟩; (intro w hSw; (try dsimp only at hSw); go_simp; (try with_reducible rfl)); (try simp only [Act.put, List.setIfInBounds_toArray, List.set_cons_zero, List.set_cons_succ]); refine hTake 18 (by kernel_rfl) (by kernel_rfl) (by kernel_rfl) (by decide) (by assumption) ?_; (intro oi hoi; simp only [List.getElem?_toArray, List.getElem?_cons_succ, List.getElem?_cons_zero] at hoi; obtain rfl := Option.some.inj hoi; clear hoi); refine ⟨rfl, ?_⟩; apply Exists.intro; refine ⟨?_, fun _ _ _ h => h, ?_⟩; (intro w hSw; (try dsimp only at hSw); go_simp; (try with_reducible rfl)); (try simp only [Act.put, List.setIfInBounds_toArray, List.set_cons_zero, List.set_cons_succ]); refine hTake 19 (by kernel_rfl) (by kernel_rfl) (by kernel_rfl) (by decide) (by assumption) ?_; (intro oi hoi; simp only [List.getElem?_toArray, List.getElem?_cons_succ, List.getElem?_cons_zero] at hoi; obtain rfl := Option.some.inj hoi; clear hoi); refine ⟨rfl, ?_⟩; apply Exists.intro; refine ⟨?_, fun _ _ _ h => h, ?_⟩; (intro w hSw; (try dsimp only at hSw); go_simp; (try with_reducible rfl)); (try simp only [Act.put, List.setIfInBounds_toArray, List.set_cons_zero, List.set_cons_succ])
        refine hOnly 20 (by kernel_rfl) (by decide) ?_; (intro oi hoi; simp only [List.getElem?_toArray, List.getElem?_cons_succ, List.getElem?_cons_zero] at hoi; obtain rfl := Option.some.inj hoi; clear hoi); intro K hK; go_simp
        refine (HCR.out _ _ _ (rd_grown (Own.rd tenc_len hown6) hHeld.1)).mono ?_
        rintro r w7 ⟨rfl, hb7⟩
        have hEhb7 := Env.step hb7 (by assumption); (try (have hqhb7 := (by with_reducible first | exact Loc.below hb7 (Loc.new (Loc.nil _) _ _) | exact Loc.below hb7 (Loc.drew (Loc.new (Loc.nil _) _ _)) | exact Loc.below hb7 (by assumption : Loc _ [_])); (repeat rw [World.size_drew] at hqhb7); (repeat rw [World.size_alloc] at hqhb7); have hrhb7 := hqhb7; (repeat unfold Loc at hrhb7)))
        (refine hK.out _ _ (by (first | assumption | exact Env.step (by assumption) (by assumption) | exact Env.old (by assumption) _ | exact Env.drew hE | exact hE | exact Env.drew (by assumption) | exact Env.drew (Env.old (by assumption) _) | ((repeat first | refine Env.far0 ?_ (by assumption) _ | refine Env.far1 ?_ (by assumption) _ | refine Env.farA ?_ (by assumption) _); assumption))) (fun hHeld => ?_); clear hK K; (try simp only [Act.put, List.setIfInBounds_toArray, List.set_cons_zero, List.set_cons_succ]))
        refine hTake 21 (by kernel_rfl) (by kernel_rfl) (by kernel_rfl) (by decide) (by assumption) ?_; (intro oi hoi; simp only [List.getElem?_toArray, List.getElem?_cons_succ, List.getElem?_cons_zero] at hoi; obtain rfl := Option.some.inj hoi; clear hoi); refine ⟨rfl, ?_⟩; apply Exists.intro; refine ⟨?_, fun _ _ _ h => h, ?_⟩; (intro w hSw; (try dsimp only at hSw); go_simp; (try with_reducible rfl)); (try simp only [Act.put, List.setIfInBounds_toArray, List.set_cons_zero, List.set_cons_succ]); refine hTake 22 (by kernel_rfl) (by kernel_rfl) (by kernel_rfl) (by decide) (by assumption) ?_; (intro oi hoi; simp only [List.getElem?_toArray, List.getElem?_cons_succ, List.getElem?_cons_zero] at hoi; obtain rfl := Option.some.inj hoi; clear hoi); refine ⟨rfl, ?_⟩; apply Exists.intro; refine ⟨?_, fun _ _ _ h => h, ?_⟩; (intro w hSw; (try dsimp only at hSw); go_simp; (try with_reducible rfl)); (try simp only [Act.put, List.setIfInBounds_toArray, List.set_cons_zero, List.set_cons_succ])
        refine wpAnyH_done (by kernel_rfl) ?_ _
        have hb67 := hHeld.1
        have hown7 := hown6.below hb67
        have hb57 := below_then hE0 hb67
        have hwr : w.heap.size ≤ wr.heap.size := Nat.le_trans hb05.size hb.size
        clear hR hR0 hE hL2
        go_wp2
        go_roundw
        case rel => exact ⟨k + 1, m', c6, A6, R, by have := HM.out; omega, by go_num, rfl, HRL.out, hown7.mono hwr, HVR.out, HE2.out, hb57⟩
        case measure => have := HM.out; simp only [lenV]; omega
      · have hpop0 : tpopl hs = (t0, [], 6) := by unfold tpopl; rw [if_neg (by rw [tck_ok hvh (by omega)]; simp), if_pos (by omega)]
        rw [hpop0, hhl] at hpop
        have HPOP := Lib.hid hpop
        have d1 : decide ((k : Int) < (n : Int)) = false := by simp; omega
        have d1' : decide (k < n) = false := by simp [h1]
        have hb0 : Below w.heap.size w wr := below_then hb05 hb
        clear hpop hperm hvh hhl hb hb05 hrd5
        have hL : Loc wr [] := trivial
        go_wp2_with (first
          | (go_at_call 32; refine (HPOP.out _ _ _ (Own.rd tenc_len hown)).mono ?_; rintro r w6 ⟨v6, rfl, hown6, hb6⟩))
        go_ret
        exact ⟨rfl, (by repeat (first | with_reducible exact Below.refl _ _ | with_reducible assumption | (with_reducible exact Env.below (by assumption)) | (with_reducible refine below_new ?_ _) | (with_reducible refine below_drew ?_) | (with_reducible refine below_drewN ?_ _) | (with_reducible refine below_put ?_ ?_ _; rotate_left 1; (dsimp only; omega)) | (with_reducible refine below_then ?_ (by assumption))))⟩
  · rw [show decide (n ≤ 60 ∧ ∀ t ∈ l, tok t) = false by simp only [decide_eq_false_iff_not]; exact hf] at hfe
    rw [← hn']
    have HFE := Lib.hid hfe
    clear hfe hf hn'
    go_enter Try.func7, Try.ntmps7
    go_wp2_with (first
      | (go_at_call 21; refine (alive18 _).mono ?_; rintro r w1 ⟨rfl, hb1⟩)
      | (go_at_call 37; refine (HFE.out _ (rd_grown lr (by repeat (first | with_reducible exact Below.refl _ _ | with_reducible assumption | (with_reducible exact Env.below (by assumption)) | (with_reducible refine below_new ?_ _) | (with_reducible refine below_drew ?_) | (with_reducible refine below_drewN ?_ _) | (with_reducible refine below_put ?_ ?_ _; rotate_left 1; (dsimp only; omega)) | (with_reducible refine below_then ?_ (by assumption)))))).mono ?_; rintro r w2 ⟨rfl, hb2⟩))
    go_ret
    exact ⟨rfl, (by repeat (first | with_reducible exact Below.refl _ _ | with_reducible assumption | (with_reducible exact Env.below (by assumption)) | (with_reducible refine below_new ?_ _) | (with_reducible refine below_drew ?_) | (with_reducible refine below_drewN ?_ _) | (with_reducible refine below_put ?_ ?_ _; rotate_left 1; (dsimp only; omega)) | (with_reducible refine below_then ?_ (by assumption))))⟩
end Go.Proofs.Ytffehibdeogjeaa
