/- The walk of the law TimersUntil (chapter 18). No condition. -/
import Derived.Test.YtffehibdeogjeaaTimersLawKit
namespace Go.Proofs.Ytffehibdeogjeaa
open Go.RowKit

set_option maxHeartbeats 8000000 in
set_option maxRecDepth 100000 in
theorem timersUntil_walk {w : World} (A : Option Addr) (c : Nat) (l : List Tm) (_lc : l.length ≤ c) (_lm : c ≤ maxLen) (_lw : ∀ x ∈ l, tmok x) (lr : Rd tenc 3 w w.heap.size A l) (mark : Int) (_wm : (Lit.int .i64 mark).wf = true) :
    Calls Try.prog 3 #[.slice A l.length c, .int .i64 mark] w fun r w' => r = .returned (.bool true) ∧ Below w.heap.size w w' := by
  obtain ⟨n, hn'⟩ : ∃ n, n = l.length := ⟨_, rfl⟩
  by_cases hg : 120 < n
  · have b1 : decide ((120 : Int) < (n : Int)) = true := by simp; omega
    have b1' : decide (120 < n) = true := by simp [hg]
    rw [← hn']
    clear hn' hg
    go_enter Try.func3, Try.ntmps3
    go_wp2_with (first
      | (go_at_call 21; refine (alive18 _).mono ?_; rintro r w1 ⟨rfl, hb1⟩))
    go_ret
    exact ⟨rfl, (by repeat (first | with_reducible exact Below.refl _ _ | with_reducible assumption | (with_reducible exact Env.below (by assumption)) | (with_reducible refine below_new ?_ _) | (with_reducible refine below_drew ?_) | (with_reducible refine below_drewN ?_ _) | (with_reducible refine below_put ?_ ?_ _; rotate_left 1; (dsimp only; omega)) | (with_reducible refine below_then ?_ (by assumption))))⟩
  · have b1 : decide ((120 : Int) < (n : Int)) = false := by simp; omega
    have b1' : decide (120 < n) = false := by simp [hg]
    have hck := fun W (h : Rd tenc 3 W W.heap.size A l) => rtcheck_any A c l W (by omega) h
    obtain ⟨z, hz⟩ : ∃ z, z = tck l := ⟨_, rfl⟩
    rw [← hz] at hck
    by_cases h0 : z = 0
    · have b2 : (z != 0) = false := by simp [h0]
      obtain ⟨hv, h4⟩ := tck_zero (hz.symm.trans h0)
      obtain ⟨U, V, hU, hV, hUV, hle, hgt, hlen⟩ := until_plain mark hv h4
      have hun := fun W (h : Rd tenc 3 W W.heap.size A l) => tuntil_any A c l mark W (by omega) h
      have hso := fun W (h : Rd tenc 3 W W.heap.size A l) => rsorted_any A c l W (by omega) h
      have hsv := fun B d W (h : Rd tenc 3 W W.heap.size B V) => rsorted_any B d V W (by omega) h
      have hcv := fun B d W (h : Rd tenc 3 W W.heap.size B V) => tcheck_any B d V W (by omega) h
      rw [hU] at hun
      rw [hV] at hcv
      have hsl : (sortL tlt t0 l).length = n := by rw [sortL_length tsto]; exact hn'.symm
      have hsvl : (sortL tlt t0 V).length = V.length := sortL_length tsto _ _
      rw [← hn'] at hck hun hso hlen ⊢
      obtain ⟨p, hp⟩ : ∃ p, p = U.length := ⟨_, rfl⟩
      obtain ⟨q, hq⟩ : ∃ q, q = V.length := ⟨_, rfl⟩
      rw [← hp, ← hq] at hlen
      rw [← hq] at hsvl
      simp only [← hq] at hsv hcv
      have HCK := Lib.hid hck; have HUN := Lib.hid hun; have HSO := Lib.hid hso; have HSV := Lib.hid hsv; have HCV := Lib.hid hcv
      have HUV := Lib.hid hUV; have HLE := Lib.hid hle; have HGT := Lib.hid hgt; have HSL := Lib.hid hsl; have HSVL := Lib.hid hsvl; have HP := Lib.hid hp; have HQ := Lib.hid hq
      clear hck hun hso hsv hcv hUV hle hgt hsl hsvl hp hq hU hV hv h4 hz h0 hn'
      obtain ⟨i0, hi0, hz0, hz1, hz2⟩ := info_parts tm_info
      go_enter Try.func3, Try.ntmps3
      go_wp2_with (first
        | (go_at_call 21; refine (alive18 _).mono ?_; rintro r w1 ⟨rfl, hb1⟩)
        | (go_at_call 22; refine (HCK.out _ (rd_grown lr (by repeat (first | with_reducible exact Below.refl _ _ | with_reducible assumption | (with_reducible exact Env.below (by assumption)) | (with_reducible refine below_new ?_ _) | (with_reducible refine below_drew ?_) | (with_reducible refine below_drewN ?_ _) | (with_reducible refine below_put ?_ ?_ _; rotate_left 1; (dsimp only; omega)) | (with_reducible refine below_then ?_ (by assumption)))))).mono ?_; rintro r w2 ⟨rfl, hb2⟩)
        | (go_at_call 23; refine (HUN.out _ (rd_grown lr (by repeat (first | with_reducible exact Below.refl _ _ | with_reducible assumption | (with_reducible exact Env.below (by assumption)) | (with_reducible refine below_new ?_ _) | (with_reducible refine below_drew ?_) | (with_reducible refine below_drewN ?_ _) | (with_reducible refine below_put ?_ ?_ _; rotate_left 1; (dsimp only; omega)) | (with_reducible refine below_then ?_ (by assumption)))))).mono ?_; rintro r w3 ⟨v3, u3, rfl, hown3, hownu3, hb3⟩; obtain ⟨A3, c3, rfl, -, z3⟩ := own_shape_z hown3 HP.out.symm; obtain ⟨B3, d3, rfl, -, y3⟩ := own_shape_z hownu3 HQ.out.symm; have Z3 := Lib.hid z3; have Y3 := Lib.hid y3; clear z3 y3)
        | (go_at_call 24; refine (HCV.out _ _ _ (Own.rd tenc_len hownu3)).mono ?_; rintro r w4 ⟨rfl, hb4⟩)
        | (at_builtin; refine wpList_append_more rfl (.tmp 39) (.tmp 40) 22 rfl w4.heap.size 34 i0 (.agg #[.int .i64 0, .int .i64 0, .int .i64 0]) 3 24 Try.underlying22 hi0 hz0 hz1 hz2 rfl (by decide) tenc tenc_len w4.heap.size 0 0 p [] U U rfl (own_empty (heap_alloc_new w4 (.cells #[] 34)) (Nat.le_refl _)) rfl A3 p c3 rfl HP.out.symm Z3.out (rd_grown (Own.rd tenc_len hown3) (by repeat (first | with_reducible exact Below.refl _ _ | with_reducible assumption | (with_reducible exact Env.below (by assumption)) | (with_reducible refine below_new ?_ _) | (with_reducible refine below_drew ?_) | (with_reducible refine below_drewN ?_ _) | (with_reducible refine below_put ?_ ?_ _; rotate_left 1; (dsimp only; omega)) | (with_reducible refine below_then ?_ (by assumption))))) (tenc_one U) rfl HP.out.symm (by unfold maxLen; omega) (by omega) (by simp) ?_; intro g5 cap5 w5 hown5 hcap5 hg5 hb5; replace hb5 := (below_new (Below.refl _ _) _).trans hb5))
      go_at_call 26
      refine (HSV.out _ _ _ (rd_grown (Own.rd tenc_len hownu3) (by repeat (first | with_reducible exact Below.refl _ _ | with_reducible assumption | (with_reducible exact Env.below (by assumption)) | (with_reducible refine below_new ?_ _) | (with_reducible refine below_drew ?_) | (with_reducible refine below_drewN ?_ _) | (with_reducible refine below_put ?_ ?_ _; rotate_left 1; (dsimp only; omega)) | (with_reducible refine below_then ?_ (by assumption)))))).mono ?_
      rintro r w6 ⟨v6, rfl, hown6, hb6⟩
      obtain ⟨A6, c6, rfl, -, z6⟩ := own_shape_z hown6 HSVL.out
      have Z6 := Lib.hid z6
      clear z6
      have hown56 := hown5.below hb6
      go_wp2_with ((at_builtin; refine wpList_append_more rfl (.tmp 41) (.tmp 43) 22 rfl w4.heap.size 34 i0 (.agg #[.int .i64 0, .int .i64 0, .int .i64 0]) 3 24 Try.underlying22 hi0 hz0 hz1 hz2 rfl (by decide) tenc tenc_len g5 cap5 p n U (sortL tlt t0 V) (sortL tlt t0 l) rfl hown56 HP.out.symm A6 q c6 rfl HSVL.out Z6.out (Own.rd tenc_len hown6) (tenc_one _) HUV.out HSL.out (by unfold maxLen; omega) (by omega) (by have := hb5.size; have := hb6.size; omega) ?_; intro g7 cap7 w7 hown7 hcap7 hg7 hb7))
      have hb47 : Below w4.heap.size w4 w7 := (below_then hb5 hb6).trans hb7
      clear hb5 hb6 hb7
      go_at_call 26
      refine (HSO.out _ (rd_grown lr (by repeat (first | with_reducible exact Below.refl _ _ | with_reducible assumption | (with_reducible exact Env.below (by assumption)) | (with_reducible refine below_new ?_ _) | (with_reducible refine below_drew ?_) | (with_reducible refine below_drewN ?_ _) | (with_reducible refine below_put ?_ ?_ _; rotate_left 1; (dsimp only; omega)) | (with_reducible refine below_then ?_ (by assumption)))))).mono ?_
      rintro r w8 ⟨v8, rfl, hown8, hb8⟩
      obtain ⟨A8, c8, rfl, -, -⟩ := own_shape_z hown8 HSL.out
      go_wp2_with fail
      go_at_call 25
      refine (tsame_yes _ _ _ _ n (sortL tlt t0 l) _ (rd_grown (Own.rd tenc_len hown7) (by repeat (first | with_reducible exact Below.refl _ _ | with_reducible assumption | (with_reducible exact Env.below (by assumption)) | (with_reducible refine below_new ?_ _) | (with_reducible refine below_drew ?_) | (with_reducible refine below_drewN ?_ _) | (with_reducible refine below_put ?_ ?_ _; rotate_left 1; (dsimp only; omega)) | (with_reducible refine below_then ?_ (by assumption))))) (Own.rd tenc_len hown8) (by rw [HSL.out]; omega) HSL.out).mono ?_
      rintro r w9 ⟨rfl, hb9⟩
      have hb39 : Below w3.heap.size w3 w9 := (by repeat (first | with_reducible exact Below.refl _ _ | with_reducible assumption | (with_reducible exact Env.below (by assumption)) | (with_reducible refine below_new ?_ _) | (with_reducible refine below_drew ?_) | (with_reducible refine below_drewN ?_ _) | (with_reducible refine below_put ?_ ?_ _; rotate_left 1; (dsimp only; omega)) | (with_reducible refine below_then ?_ (by assumption))))
      have hb09 : Below w.heap.size w w9 := (by repeat (first | with_reducible exact Below.refl _ _ | with_reducible assumption | (with_reducible exact Env.below (by assumption)) | (with_reducible refine below_new ?_ _) | (with_reducible refine below_drew ?_) | (with_reducible refine below_drewN ?_ _) | (with_reducible refine below_put ?_ ?_ _; rotate_left 1; (dsimp only; omega)) | (with_reducible refine below_then ?_ (by assumption))))
      have hU := hown3.below hb39
      have hV := hownu3.below hb39
      clear hown7 hown8 hown6 hown56 hown5 hown3 hownu3 hb9 hb8 hb47 hb4 hb3 hb2 hb1
      go_wp2_with fail
      go_loopw [9] (fun i wr => ∃ k : Nat, k ≤ p ∧ i = .int .i64 k ∧ wr = w9) (fun i _ => p - (intOf i).toNat)
      case atStart => exact ⟨0, Nat.zero_le _, rfl, rfl⟩
      case round =>
        obtain ⟨k, hk, rfl, rfl⟩ := hrel
        by_cases h1 : k < p
        · have d1 : decide ((k : Int) < (p : Int)) = true := by simp; omega
          have d1' : decide (k < p) = true := by simp [h1]
          obtain ⟨x, hx⟩ : ∃ x, U[k]? = some x := ⟨_, List.getElem?_eq_getElem (by rw [← HP.out]; exact h1)⟩
          obtain ⟨b, off, rfl, hbB, f1, f2, f3⟩ := tm_cells (Own.rd tenc_len hU) hx
          have hxe := HLE.out x (List.mem_of_getElem? hx)
          have d2 : decide (mark < x.e) = false := by simp; omega
          have i1 : (0 : Int) ≤ (k : Int) := by omega
          have i2 : (k : Int) < (p : Int) := by omega
          clear hx hxe hU
          go_wp2
          go_roundw
          case rel => exact ⟨k + 1, by omega, by go_num, trivial⟩
          case measure => simp [intOf]; omega
        · have d1 : decide ((k : Int) < (p : Int)) = false := by simp; omega
          have d1' : decide (k < p) = false := by simp [h1]
          by_cases hq0 : q = 0
          · have d3 : ((q : Int) == 0) = true := by simp [hq0]
            go_wp2
            go_ret
            exact ⟨rfl, hb09⟩
          · have d3 : ((q : Int) == 0) = false := by simp [hq0]
            obtain ⟨x, hx⟩ : ∃ x, V[0]? = some x := ⟨_, List.getElem?_eq_getElem (by rw [← HQ.out]; omega)⟩
            obtain ⟨b, off, rfl, hbB, f1, f2, f3⟩ := tm_cells (Own.rd tenc_len hV) hx
            simp only [Nat.zero_mul, Nat.add_zero] at f1 f2 f3
            have d2 : decide (mark < x.e) = true := by simp; exact HGT.out x hx
            have i1 : (0 : Int) < (q : Int) := by omega
            have i2 : 0 < q := by omega
            clear hx hV hq0
            go_wp2
            go_ret
            exact ⟨rfl, hb09⟩
    · have b2 : (z != 0) = true := by simp [h0]
      rw [← hn'] at hck ⊢
      have HCK := Lib.hid hck
      clear hck hz h0 hn'
      go_enter Try.func3, Try.ntmps3
      go_wp2_with (first
        | (go_at_call 21; refine (alive18 _).mono ?_; rintro r w1 ⟨rfl, hb1⟩)
        | (go_at_call 22; refine (HCK.out _ (rd_grown lr (by repeat (first | with_reducible exact Below.refl _ _ | with_reducible assumption | (with_reducible exact Env.below (by assumption)) | (with_reducible refine below_new ?_ _) | (with_reducible refine below_drew ?_) | (with_reducible refine below_drewN ?_ _) | (with_reducible refine below_put ?_ ?_ _; rotate_left 1; (dsimp only; omega)) | (with_reducible refine below_then ?_ (by assumption)))))).mono ?_; rintro r w2 ⟨rfl, hb2⟩))
      go_ret
      exact ⟨rfl, (by repeat (first | with_reducible exact Below.refl _ _ | with_reducible assumption | (with_reducible exact Env.below (by assumption)) | (with_reducible refine below_new ?_ _) | (with_reducible refine below_drew ?_) | (with_reducible refine below_drewN ?_ _) | (with_reducible refine below_put ?_ ?_ _; rotate_left 1; (dsimp only; omega)) | (with_reducible refine below_then ?_ (by assumption))))⟩
end Go.Proofs.Ytffehibdeogjeaa
