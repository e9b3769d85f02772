/- The walk of the law TimersMixed (chapter 18). No condition. -/
import Derived.Test.YtffehibdeogjeaaTimersMKit
namespace Go.Proofs.Ytffehibdeogjeaa
open Go.RowKit

def benc (x : Bool) : List Value := [.bool x]
def bok (_ : Bool) : Prop := True
theorem benc_dec (vs : List Value) (h : FitsL [none] vs) : ∃ x, vs = benc x ∧ bok x := by
  obtain ⟨n, vs', rfl, rfl⟩ := h
  exact ⟨n, rfl, trivial⟩

set_option maxHeartbeats 16000000 in
set_option maxRecDepth 100000 in
theorem timersMixed_walk {w : World} (A : Option Addr) (c : Nat) (l : List Tm) (_lc : l.length ≤ c) (_lm : c ≤ maxLen) (_lw : ∀ x ∈ l, tmok x) (lr : Rd tenc 3 w w.heap.size A l)
    (A' : Option Addr) (c' : Nat) (ps : List Bool) (_pc : ps.length ≤ c') (_pm : c' ≤ maxLen) (_pw : ∀ x ∈ ps, bok x) (pr : Rd benc 1 w w.heap.size A' ps) :
    Calls Try.prog 8 #[.slice A l.length c, .slice A' ps.length c'] w fun r w' => r = .returned (.bool true) ∧ Below w.heap.size w w' := by
  obtain ⟨n, hn'⟩ : ∃ n, n = l.length := ⟨_, rfl⟩
  obtain ⟨p, hp'⟩ : ∃ p, p = ps.length := ⟨_, rfl⟩
  have hfe := fun W (h : Rd tenc 3 W W.heap.size A l) => few_any A c n l W hn'.symm h
  by_cases hf : n ≤ 60 ∧ ∀ t ∈ l, tok t
  · rw [show decide (n ≤ 60 ∧ ∀ t ∈ l, tok t) = true from decide_eq_true hf] at hfe
    by_cases hpn : p = n
    · obtain ⟨h60, hok⟩ := hf
      rw [← hn', ← hp', hpn]
      rw [hpn] at hp'
      have HFE := Lib.hid hfe; have HOK := Lib.hid hok; have HN := Lib.hid hn'; have HP := Lib.hid hp'
      obtain ⟨i0, hi0, hz0, hz1, hz2⟩ := info_parts tm_info
      clear hfe hok hn' hp' hpn
      go_enter Try.func8, Try.ntmps8
      go_wp2_with fail
      go_at_call 21
      refine (alive18 _).mono ?_
      rintro r w1 ⟨rfl, hb1⟩
      go_wp2_with fail
      go_at_call 37
      refine (HFE.out _ (rd_grown lr (by repeat (first | with_reducible exact Below.refl _ _ | with_reducible assumption | (with_reducible exact Env.below (by assumption)) | (with_reducible refine below_new ?_ _) | (with_reducible refine below_drew ?_) | (with_reducible refine below_drewN ?_ _) | (with_reducible refine below_put ?_ ?_ _; rotate_left 1; (dsimp only; omega)) | (with_reducible refine below_then ?_ (by assumption)))))).mono ?_
      rintro r w2 ⟨rfl, hb2⟩
      have hb02 : Below w.heap.size w w2 := (by repeat (first | with_reducible exact Below.refl _ _ | with_reducible assumption | (with_reducible exact Env.below (by assumption)) | (with_reducible refine below_new ?_ _) | (with_reducible refine below_drew ?_) | (with_reducible refine below_drewN ?_ _) | (with_reducible refine below_put ?_ ?_ _; rotate_left 1; (dsimp only; omega)) | (with_reducible refine below_then ?_ (by assumption))))
      clear hb1 hb2
      go_wp2_with fail
      go_loopw [6, 7, 8] (fun h hv i wr => ∃ (k m ch cv : Nat) (Ah Av : Option Addr) (hs : List Tm), k ≤ n ∧ i = .int .i64 k ∧ h = .slice Ah m ch ∧ hv = .slice Av m cv ∧ hs.length = m ∧ m ≤ k ∧ Own tenc 3 wr w.heap.size 34 (.slice Ah m ch) hs ∧ thv hs ∧ HvAt wr w.heap.size (.slice Av m cv) (sortL tlt t0 hs) ∧ Below w.heap.size w wr) (fun _ _ i _ => n - (intOf i).toNat)
      case atStart => exact ⟨0, 0, 0, 0, none, none, [], Nat.zero_le _, rfl, rfl, rfl, rfl, Nat.le_refl _, Own.nil _ _ _, thv_nil, .inl ⟨rfl, rfl⟩, hb02⟩
      case round =>
        obtain ⟨k, m, ch, cv, Ah, Av, hs, hk, rfl, rfl, rfl, hhl, hmk, hown, hvh, hhv, hb⟩ := hrel
        have HHL := Lib.hid hhl; have HVH := Lib.hid hvh
        clear hb02
        by_cases h1 : k < n
        · obtain ⟨x, hx⟩ : ∃ x, l[k]? = some x := ⟨_, List.getElem?_eq_getElem (by rw [← HN.out]; exact h1)⟩
          obtain ⟨q, hq⟩ : ∃ q, ps[k]? = some q := ⟨_, List.getElem?_eq_getElem (by rw [← HP.out]; exact h1)⟩
          have hxok := HOK.out x (List.mem_of_getElem? hx)
          obtain ⟨b, off, rfl, hbB, f1, f2, f3⟩ := tm_cells lr hx
          obtain ⟨bp, op, rfl, hbp, g1⟩ := pr.at_ hq
          have g2 := g1 0 _ rfl
          simp only [Nat.mul_one, Nat.add_zero] at g2
          have hpu := fun W (h : Rd tenc 3 W W.heap.size Ah hs) => push_any Ah ch hs x W (by omega) h
          rw [tpush_ok hvh (by omega) hxok, hhl] at hpu
          obtain ⟨m1, hm1⟩ : ∃ m1, m + 1 = m1 := ⟨_, rfl⟩
          obtain ⟨H, hH⟩ : ∃ H, H = pushL tlt t0 hs x := ⟨_, rfl⟩
          rw [← hH] at hpu
          have hHl : H.length = m1 := by rw [hH, pushL_length, hhl, hm1]
          have hvH : thv H := by rw [hH]; exact thv_push hvh hxok
          have hsS : sortL tlt t0 (sortL tlt t0 hs ++ [x]) = sortL tlt t0 H := sortL_congr tsto t0 (by rw [hH]; exact ((sortL_perm tsto t0 hs).append_right [x]).trans (pushL_perm tlt t0 hs x).symm)
          obtain ⟨S, hS⟩ : ∃ S, S = sortL tlt t0 hs := ⟨_, rfl⟩
          obtain ⟨S1, hS1⟩ : ∃ S1, S1 = sortL tlt t0 H := ⟨_, rfl⟩
          rw [← hS, ← hS1] at hsS
          rw [← hS] at hhv
          have hSl : S.length = m := by rw [hS, sortL_length tsto, hhl]
          have hS1l : S1.length = m1 := by rw [hS1, sortL_length tsto, hHl]
          have hso := fun B d W (h : Rd tenc 3 W W.heap.size B (S ++ [x])) => rsorted_any B d (S ++ [x]) W (by simp [hSl]; omega) h
          rw [hsS, show (S ++ [x]).length = m1 by simp [hSl, hm1]] at hso
          have e1 : IntKind.i64.wrap ((m : Int) + 1) = (m1 : Int) := by rw [IntWalk.i64_in _ (by omega)]; omega
          have e2 : ((m1 : Int) != (m1 : Int)) = false := by simp
          have d1 : decide ((k : Int) < (n : Int)) = true := by simp; omega
          have d1' : decide (k < n) = true := by simp [h1]
          have i1 : (0 : Int) ≤ (k : Int) := by omega
          have i2 : (k : Int) < (n : Int) := by omega
          have hm61 : m1 ≤ 61 := by omega
          have HPU := Lib.hid hpu; have HSO := Lib.hid hso; have HHL1 := Lib.hid hHl; have HVH1 := Lib.hid hvH; have HSL := Lib.hid hSl; have HS1L := Lib.hid hS1l; have HS1 := Lib.hid hS1; have HM1 := Lib.hid hm1
          clear hpu hso hHl hvH hSl hS1l hS1 hm1 hsS hS hH hx hq hxok hhl hvh g1
          have h1f := (hb.cell (p := ⟨b, off + k * 3, none⟩) hbB).trans f1
          have h2f := (hb.cell (p := ⟨b, off + k * 3 + 1, none⟩) hbB).trans f2
          have h3f := (hb.cell (p := ⟨b, off + k * 3 + 2, none⟩) hbB).trans f3
          go_wp2_with fail
          go_at_call 28
          refine (HPU.out _ (Own.rd tenc_len hown)).mono ?_
          rintro r w3 ⟨v3, rfl, own3, hb3⟩
          obtain ⟨A3, c3, rfl, -⟩ := own_shape_n own3 HHL1.out
          have hwr := hb.size
          have hb03 := below_then hb hb3
          have f1' := (hb03.cell (p := ⟨b, off + k * 3, none⟩) hbB).trans f1
          have f2' := (hb03.cell (p := ⟨b, off + k * 3 + 1, none⟩) hbB).trans f2
          have f3' := (hb03.cell (p := ⟨b, off + k * 3 + 2, none⟩) hbB).trans f3
          have hhv3 := hhv.below hb3
          have hvlt := hhv.lt
          have hz3 := hb3.size
          clear hown hhv f1 f2 f3 hb h1f h2f h3f
          go_wp2_with (at_builtin; refine wpList_append_hv _ rfl (.tmp 56) (.tmp 61) 22 rfl 34 i0 (.agg #[.int .i64 0, .int .i64 0, .int .i64 0]) 24 Try.underlying22 hi0 hz0 hz1 hz2 rfl w.heap.size Av m cv S x rfl HSL.out (hhv3.below ((Below.refl _ _).alloc (Nat.le_refl _) (.cells #[.int .i64 x.s, .int .i64 x.e, .int .i64 x.k] 34))) ⟨w3.heap.size, 0, none⟩ 1 rfl (tm_new w3 x 34 w3.heap.size rfl) (by unfold maxLen; omega) (by omega) ?_; intro A5 c5 w5 row hrd5 hgr5 hrow5)
          have own5 := (own3.alloc (.cells #[.int .i64 x.s, .int .i64 x.e, .int .i64 x.k] 34)).grown hgr5 (by
            cases ho : (Value.slice A3 m1 c3).ownBlock with
            | none => exact .inl rfl
            | some g =>
              right
              intro e
              have h1 := (hvlt g (hrow5 g e.symm)).2
              have h2 := (World.ownsRow.lt own3 g ho).1
              omega)
          have hb5 : Below w.heap.size w w5 := (hb03.alloc hb03.size _).grown hgr5 (by rw [World.size_alloc]; have := hb03.size; omega) (fun k hk => (hvlt k (hrow5 k hk)).1)
          have hz5 := hgr5.size
          rw [World.size_alloc] at hz5
          rw [HM1.out]
          clear hgr5 hrow5 hhv3 hvlt own3 hb03 hb3 f1' f2' f3'
          go_at_call 26
          refine (HSO.out _ _ _ hrd5).mono ?_
          rintro r w6 ⟨v6, rfl, own6, hb6⟩
          obtain ⟨g6, c6, rfl, -, hg6⟩ := World.ownsRow.form own6 (by rw [HS1L.out]; have := HM1.out; omega)
          rw [HS1L.out] at own6 ⊢
          have own56 := own5.below hb6
          have hb06 : Below w.heap.size w w6 := hb5.trans (hb6.mono hb5.size)
          have g6c := (hb06.cell (p := ⟨bp, op + k, none⟩) hbp).trans g2
          have hz6 := hb6.size
          clear own5 hrd5 hb5 hb6
          cases q with
          | false =>
            go_wp2
            go_roundw
            case rel => exact ⟨k + 1, m1, c3, c6, A3, some ⟨g6, 0, none⟩, H, by omega, by go_num, rfl, rfl, HHL1.out, by have := HM1.out; omega, own56.mono (by omega), HVH1.out, by rw [← HS1.out]; exact HvAt.own (own6.mono (by omega)), hb06⟩
            case measure => simp [intOf]; omega
          | true =>
            obtain ⟨y, S2, hSc⟩ : ∃ y S2, S1 = y :: S2 := by
              cases hS : S1 with
              | nil => have h := HS1L.out; rw [hS] at h; simp at h; have := HM1.out; omega
              | cons y S2 => exact ⟨y, S2, rfl⟩
            have hss : Srt tlt (y :: S2) := by rw [← hSc, HS1.out]; exact sortL_srt tsto t0 H
            have hper : H.Perm (y :: S2) := by rw [← hSc, HS1.out]; exact (sortL_perm tsto t0 H).symm
            obtain ⟨-, e3, e4⟩ := heap_head tsto (d := t0) HVH1.out.2 hper hss
            have hpo := fun B d W (h : Rd tenc 3 W W.heap.size B H) => tpop_any B d H W (by have := HHL1.out; omega) h
            rw [tpopl_ok HVH1.out (by have := HHL1.out; omega) (by have := HHL1.out; have := HM1.out; omega), e3, HHL1.out] at hpo
            obtain ⟨R, hR⟩ : ∃ R, R = popL tlt t0 H := ⟨_, rfl⟩
            rw [← hR] at e4 hpo
            have hRl : R.length = m := by rw [hR, popL_length, HHL1.out, ← HM1.out]; rfl
            have hvR : thv R := by rw [hR]; exact thv_pop HVH1.out
            have hsR : sortL tlt t0 R = S2 := sortL_eq tsto t0 e4 (List.pairwise_cons.1 hss).2
            have hS2l : S2.length = m := by have h := HS1L.out; rw [hSc] at h; simp at h; have := HM1.out; omega
            have hS10 : S1[0]? = some y := by rw [hSc]; rfl
            obtain ⟨y1, y2, y3⟩ := y
            have HPO := Lib.hid hpo; have HRL := Lib.hid hRl; have HVR := Lib.hid hvR; have HSR := Lib.hid hsR; have HS2L := Lib.hid hS2l; have HSC := Lib.hid hSc; have HS10 := Lib.hid hS10
            clear hpo hRl hvR hsR hS2l hSc hS10 e3 e4 hper hss hR
            have i3 : (1 : Int) ≤ (m1 : Int) := by have := HM1.out; omega
            have i4 : (0 : Int) < (m1 : Int) := by omega
            have i5 : 0 < m1 := by omega
            have i6 : 1 ≤ m1 := by omega
            go_wp2_with fail
            go_at_call 32
            refine (HPO.out _ _ _ (Own.rd tenc_len own56)).mono ?_
            rintro r w7 ⟨v7, rfl, own7, hb7⟩
            obtain ⟨A7, c7, rfl, -⟩ := own_shape_n own7 HRL.out
            have own67 := own6.below hb7
            obtain ⟨q1, q2, q3, hg7⟩ := own_tm own67 HS10.out
            rw [Nat.zero_mul] at q1
            rw [Nat.zero_mul, Nat.zero_add] at q2 q3
            have hcap6 := own_cap own67 HS1L.out.symm
            have hb07 := hb06.trans (hb7.mono hb06.size)
            go_wp2_with fail
            (refine wp_region_quiet_lit (by kernel_rfl) (by kernel_rfl) ?_; (repeat (any_goals (first | go_big_quiet_step (fail) | quiet_step (fail)))); all_goals (refine wpQuiet_nil ?_; intro _ hw'; obtain ⟨nq, hw''⟩ := hw'; subst hw''))
            go_wp2_with fail
            (refine wp_region_quiet_lit (by kernel_rfl) (by kernel_rfl) ?_; (repeat (any_goals (first | go_big_quiet_step (fail) | quiet_step (fail)))); all_goals (refine wpQuiet_nil ?_; intro _ hw'; obtain ⟨nq, hw''⟩ := hw'; subst hw''))
            have hv7 := HvAt.own (own67.mono (base' := w.heap.size) (by omega))
            rw [HSC.out] at hv7
            have hv8 := hv7.tail (by rw [HS2L.out]; exact HM1.out.symm) (if c6 = 1 then 0 else 3) (fun h => by rw [if_neg h])
            rw [HS2L.out] at hv8
            have hm1m : m1 - 1 = m := by have := HM1.out; omega
            have HMM := Lib.hid hm1m
            clear hm1m hv7 q1 q2 q3
            go_wp2
            go_roundw
            case rel => exact ⟨k + 1, m, c7, c6 - 1, A7, some ⟨g6, if c6 = 1 then 0 else 3, none⟩, R, by omega, by go_num, rfl, by rw [HMM.out]; split <;> rfl, HRL.out, by omega, (own7.alloc _).mono (by omega), HVR.out, by rw [HSR.out]; exact hv8.below (below_drewN (below_new (Below.refl _ _) _) _), by have h := hb07.alloc hb07.size (.cells #[.int .i64 y1, .int .i64 y2, .int .i64 y3] 34); exact below_drewN h _⟩
            case measure => simp [intOf]; omega
        · have hkn : k = n := by omega
          have d1 : decide ((k : Int) < (n : Int)) = false := by simp; omega
          have d1' : decide (k < n) = false := by simp [h1]
          have hso := fun W (h : Rd tenc 3 W W.heap.size Ah hs) => rsorted_any Ah ch hs W (by omega) h
          rw [hhl] at hso
          have HSO := Lib.hid hso
          have hsl : (sortL tlt t0 hs).length = m := by rw [sortL_length tsto, hhl]
          have HSL := Lib.hid hsl
          clear hkn hso hsl hhl hvh
          go_wp2_with fail
          go_at_call 26
          refine (HSO.out _ (Own.rd tenc_len hown)).mono ?_
          rintro r w3 ⟨v3, rfl, own3, hb3⟩
          obtain ⟨A3, c3, rfl, -⟩ := own_shape_n own3 HSL.out
          go_wp2_with fail
          go_at_call 25
          refine (tsame_yes _ _ _ _ m (sortL tlt t0 hs) _ (Own.rd tenc_len own3) (rd_grown hhv.rd hb3) (by rw [HSL.out]; omega) HSL.out).mono ?_
          rintro r w4 ⟨rfl, hb4⟩
          go_wp2
          go_ret
          exact ⟨rfl, below_then (below_then hb hb3) hb4⟩
    · rw [← hn', ← hp']
      have b2 : ((p : Int) != (n : Int)) = true := by simp; omega
      have HFE := Lib.hid hfe
      clear hfe hf hn' hp' hpn
      go_enter Try.func8, Try.ntmps8
      go_wp2_with (first
        | (go_at_call 21; refine (alive18 _).mono ?_; rintro r w1 ⟨rfl, hb1⟩)
        | (go_at_call 37; refine (HFE.out _ (rd_grown lr (by repeat (first | with_reducible exact Below.refl _ _ | with_reducible assumption | (with_reducible exact Env.below (by assumption)) | (with_reducible refine below_new ?_ _) | (with_reducible refine below_drew ?_) | (with_reducible refine below_drewN ?_ _) | (with_reducible refine below_put ?_ ?_ _; rotate_left 1; (dsimp only; omega)) | (with_reducible refine below_then ?_ (by assumption)))))).mono ?_; rintro r w2 ⟨rfl, hb2⟩))
      go_ret
      exact ⟨rfl, (by repeat (first | with_reducible exact Below.refl _ _ | with_reducible assumption | (with_reducible exact Env.below (by assumption)) | (with_reducible refine below_new ?_ _) | (with_reducible refine below_drew ?_) | (with_reducible refine below_drewN ?_ _) | (with_reducible refine below_put ?_ ?_ _; rotate_left 1; (dsimp only; omega)) | (with_reducible refine below_then ?_ (by assumption))))⟩
  · rw [show decide (n ≤ 60 ∧ ∀ t ∈ l, tok t) = false by simp only [decide_eq_false_iff_not]; exact hf] at hfe
    rw [← hn']
    have HFE := Lib.hid hfe
    clear hfe hf hn' hp'
    go_enter Try.func8, Try.ntmps8
    go_wp2_with (first
      | (go_at_call 21; refine (alive18 _).mono ?_; rintro r w1 ⟨rfl, hb1⟩)
      | (go_at_call 37; refine (HFE.out _ (rd_grown lr (by repeat (first | with_reducible exact Below.refl _ _ | with_reducible assumption | (with_reducible exact Env.below (by assumption)) | (with_reducible refine below_new ?_ _) | (with_reducible refine below_drew ?_) | (with_reducible refine below_drewN ?_ _) | (with_reducible refine below_put ?_ ?_ _; rotate_left 1; (dsimp only; omega)) | (with_reducible refine below_then ?_ (by assumption)))))).mono ?_; rintro r w2 ⟨rfl, hb2⟩))
    go_ret
    exact ⟨rfl, (by repeat (first | with_reducible exact Below.refl _ _ | with_reducible assumption | (with_reducible exact Env.below (by assumption)) | (with_reducible refine below_new ?_ _) | (with_reducible refine below_drew ?_) | (with_reducible refine below_drewN ?_ _) | (with_reducible refine below_put ?_ ?_ _; rotate_left 1; (dsimp only; omega)) | (with_reducible refine below_then ?_ (by assumption))))⟩
end Go.Proofs.Ytffehibdeogjeaa
