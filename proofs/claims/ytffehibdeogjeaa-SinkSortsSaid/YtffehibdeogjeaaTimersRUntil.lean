/- The contract of the reference's Until (chapter 18). Condition: a list that lies at an address, of at most 2^40 timers. -/
import Derived.Test.YtffehibdeogjeaaTimersRPop
namespace Go.Proofs.Ytffehibdeogjeaa
open Go.RowKit

theorem own_apart2' {α : Type} {enc : α → List Value} {sz : Nat} {w W : World} {base : Nat} {e : TypeId} {u v : Value} {l m : List α} (hu : Own enc sz W w.heap.size e u l) (hv : Own enc sz w base e v m) : ∀ k, v.ownBlock = some k → u.ownBlock ≠ some k := by
  intro k h1 h2
  have := (World.ownsRow.lt hv k h1).2
  have := (World.ownsRow.lt hu k h2).1
  omega

set_option maxHeartbeats 8000000 in
set_option maxRecDepth 100000 in
theorem runtil_any (b off c : Nat) (l : List Tm) (mark : Int) (w : World) (hn : l.length ≤ 1099511627776) (hbB : b < w.heap.size) (hr : Rd tenc 3 w w.heap.size (some ⟨b, off, none⟩) l) :
    Calls Try.prog 34 #[.slice (some ⟨b, off, none⟩) l.length c, .int .i64 mark] w fun e w' =>
      ∃ v u, e = .returned (.tuple #[v, u, .int .i64 (tuntil l mark).2.2]) ∧ Own tenc 3 w' w.heap.size 34 v (tuntil l mark).1 ∧ Own tenc 3 w' w.heap.size 34 u (tuntil l mark).2.1 ∧ Below w.heap.size w w' := by
  have hck := fun W (h : Rd tenc 3 W W.heap.size (some ⟨b, off, none⟩) l) => rtcheck_any (some ⟨b, off, none⟩) c l W hn h
  have hflat := rd_flat tenc_len hr
  obtain ⟨n, hn'⟩ : ∃ n, n = l.length := ⟨_, rfl⟩
  rw [← hn'] at hn hck ⊢
  have HN := Lib.hid hn'; have HCK := Lib.hid hck; have HF := Lib.hid hflat
  clear hn' hck hflat
  have hL : Loc w [] := trivial
  obtain ⟨q, hq⟩ : ∃ q, q = tck l := ⟨_, rfl⟩
  have HQ := Lib.hid hq
  by_cases h0 : q = 0
  · have b0 : (q != 0) = false := by simp [h0]
    obtain ⟨U, hU⟩ : ∃ U, U = untilL tlt t0 (fun t => decide (t.e ≤ mark)) l.length l := ⟨_, rfl⟩
    have hs : tuntil l mark = (U.1, U.2, 0) := by unfold tuntil; rw [if_neg (by rw [← hq, h0]; simp), hU]
    have HS := Lib.hid hs; have HU := Lib.hid hU
    obtain ⟨i0, hi0, hz0, hz1, hz2⟩ := info_parts tm_info
    clear hs h0 hq hU
    go_enter Try.func34, Try.ntmps34
    go_wp2_with (first
      | (go_at_call 22; refine (HCK.out _ (rd_grown hr (by repeat (first | with_reducible exact Below.refl _ _ | with_reducible assumption | (with_reducible exact Env.below (by assumption)) | (with_reducible refine below_new ?_ _) | (with_reducible refine below_drew ?_) | (with_reducible refine below_drewN ?_ _) | (with_reducible refine below_put ?_ ?_ _; rotate_left 1; (dsimp only; omega)) | (with_reducible refine below_then ?_ (by assumption)))))).mono ?_; rw [← HQ.out]; rintro e w1 ⟨rfl, hb1⟩; replace hL := (by with_reducible first | exact hL.below hb1 | exact (hL.new _ _).below hb1 | exact ((hL.new _ _).new _ _).below hb1 | exact (((hL.new _ _).new _ _).new _ _).below hb1 | exact ((((hL.new _ _).new _ _).new _ _).new _ _).below hb1); (repeat rw [World.size_alloc] at hL); have hF := hL; (repeat unfold Loc at hF))
      | (at_builtin; refine wpList_append_list rfl (.tmp 15) (.tmp 16) 22 rfl w1.heap.size 34 i0 (.agg #[.int .i64 0, .int .i64 0, .int .i64 0]) 3 24 Try.underlying22 hi0 hz0 hz1 hz2 rfl (by decide) tenc tenc_len (.slice (some ⟨w1.heap.size, 0, none⟩) 0 0) [] l rfl (Own.made (enc := tenc) (sz := 3) tenc_len w1 w1.heap.size 34 [] w1.heap.size rfl (Nat.le_refl _) (by simp [maxLen])) ⟨b, off, none⟩ n c rfl HN.out.symm (fun j u hj => (Below.cell (p := (⟨b, off, none⟩ : Addr).add j) (below_new hb1 _) (by unfold Addr.add; split <;> simpa using hbB)).trans (HF.out j u hj)) (tenc_one _) (by unfold maxLen; simp; omega) (by simp; omega) (by simp) ?_; intro v w2 hown2 hgrow hbel; rw [List.nil_append] at hown2; obtain ⟨Av, cv, hv⟩ := own_shape hown2; rw [← HN.out] at hv; subst hv; have hb2 : Below w1.heap.size w1 w2 := ((Below.refl _ _).alloc (Nat.le_refl _) _).trans hbel; clear hgrow hbel))
    have hbw : Below w.heap.size w w1 := (by repeat (first | with_reducible exact Below.refl _ _ | with_reducible assumption | (with_reducible exact Env.below (by assumption)) | (with_reducible refine below_new ?_ _) | (with_reducible refine below_drew ?_) | (with_reducible refine below_drewN ?_ _) | (with_reducible refine below_put ?_ ?_ _; rotate_left 1; (dsimp only; omega)) | (with_reducible refine below_then ?_ (by assumption))))
    clear hF hL hb1 hr
    go_loopw [8, 9] (fun o r wr => ∃ (f n' cr : Nat) (Ar : Option Addr) (os rs : List Tm), r = .slice Ar n' cr ∧ rs.length = n' ∧ n' ≤ f ∧ os.length + n' = n ∧
      (os ++ (untilL tlt t0 (fun t => decide (t.e ≤ mark)) f rs).1, (untilL tlt t0 (fun t => decide (t.e ≤ mark)) f rs).2) = U ∧ Own tenc 3 wr w1.heap.size 34 (.slice Ar n' cr) rs ∧
      Own tenc 3 wr w1.heap.size 34 o os ∧ (∀ k, o.ownBlock = some k → (Value.slice Ar n' cr).ownBlock ≠ some k) ∧ Below w1.heap.size w1 wr) (fun _ r _ => lenV r)
    case atStart => exact ⟨n, n, cv, Av, [], l, rfl, HN.out.symm, Nat.le_refl _, by simp, by rw [HU.out, ← HN.out]; rfl, hown2, Own.nil _ _ _, by intro k hk; simp [Value.ownBlock] at hk, hb2⟩
    case round =>
      obtain ⟨f, n', cr, Ar, os, rs, rfl, hrl, hnf, hol, hun, hown, howo, hdis, hb⟩ := hrel
      have HRL := Lib.hid hrl
      have HUN := Lib.hid hun
      by_cases hz : n' = 0
      · have b1 : decide ((0 : Int) < (n' : Int)) = false := by simp [hz]
        have b2 : decide (0 < n') = false := by simp [hz]
        have hrs : rs = [] := List.eq_nil_of_length_eq_zero (by rw [hrl, hz])
        have hu : (os, rs) = U := by rw [← hun, hrs, untilL_nil]; simp
        have HUU := Lib.hid hu
        clear hz hrs hu hun hrl
        go_wp2
        go_ret3
        rw [HS.out]
        exact ⟨_, _, rfl, by rw [← HUU.out]; exact howo.mono hbw.size, by rw [← HUU.out]; exact hown.mono hbw.size, hbw.trans (hb.mono hbw.size)⟩
      · obtain ⟨x, hx⟩ : ∃ x, rs[0]? = some x := ⟨_, List.getElem?_eq_getElem (by omega)⟩
        obtain ⟨m, hm⟩ : ∃ m, n' = m + 1 := ⟨n' - 1, by omega⟩
        obtain ⟨g, cap, hv, hbg, hglt⟩ := World.ownsRow.form hown (by omega)
        simp only [Value.slice.injEq] at hv
        obtain ⟨rfl, -, rfl⟩ := hv
        have hcap := own_cap hown hrl.symm
        obtain ⟨c1, c2, c3, -⟩ := own_tm hown hx
        rw [Nat.zero_mul] at c1
        rw [Nat.zero_mul, Nat.zero_add] at c2 c3
        have b1 : decide ((0 : Int) < (n' : Int)) = true := by simp; omega
        have b2 : decide (0 < n') = true := by simp; omega
        have j1 : (0 : Int) < (n' : Int) := by omega
        have j2 : 0 < n' := by omega
        have HX := Lib.hid hx; have HM := Lib.hid hm
        have HD := Lib.hid hdis
        by_cases hle : x.e ≤ mark
        · obtain ⟨f', e1, e2⟩ := untilL_step (lt := tlt) (d := t0) (p := fun t => decide (t.e ≤ mark)) (n := f) hx (by omega) (by simp [hle])
          have b3 : decide (x.e ≤ mark) = true := by simp [hle]
          rw [popL_length, hrl, hm] at e2
          have E1 := Lib.hid e1
          have hmn : m < n' := by omega
          have hon : os.length + 1 + m = n := by omega
          have hpp : ∀ W, g < W.heap.size → Rd tenc 3 W W.heap.size (some ⟨g, 0, none⟩) rs → Calls Try.prog 78 #[.slice (some ⟨g, 0, none⟩) n' cr] W fun e w' => ∃ v, e = .returned v ∧ Own tenc 3 w' W.heap.size 34 v (popL tlt t0 rs) ∧ Below W.heap.size W w' := by
            intro W h1 h2
            have := rpopped_any g 0 cr m rs W (by omega) (by omega) (by omega) h1 h2
            rwa [← hm] at this
          have HPP := Lib.hid hpp
          clear e1 hx hm hrl hun hz hdis hpp
          go_wp2_with (first
            | (at_builtin; refine wpList_append_elem rfl _ _ 22 rfl w1.heap.size 34 i0 (.agg #[.int .i64 0, .int .i64 0, .int .i64 0]) 3 24 Try.underlying22 hi0 hz0 hz1 hz2 rfl (by decide) tenc tenc_len _ _ x rfl (howo.alloc (.cells #[.int .i64 x.s, .int .i64 x.e, .int .i64 x.k] 34)) ⟨wr.heap.size, 0, none⟩ 1 rfl (by intro j u hj; exact tm_new _ x 34 wr.heap.size rfl j u (by simpa using hj)) (tm_one x) (by unfold maxLen; omega) (by omega) (by have := hb.size; simp; omega) ?_; intro v' w5 hown' hgrow hbel; have hb5 : Below w1.heap.size w1 w5 := (hb.alloc hb.size _).trans hbel; have hown5 := (hown.alloc (.cells #[.int .i64 x.s, .int .i64 x.e, .int .i64 x.k] 34)).grown hgrow (.inr (fun e => HD.out g e.symm rfl)); have hs5 := hgrow.size; rw [World.size_alloc] at hs5; clear hgrow hbel)
            | (go_at_call 78; refine (HPP.out _ (by omega) (Own.rd tenc_len hown5)).mono ?_; rintro e w6 ⟨v6, rfl, hown6, hb6⟩))
          obtain ⟨A6, c6, hv6⟩ := own_shape hown6
          rw [popL_length, HRL.out, HM.out] at hv6
          simp only [Nat.add_sub_cancel] at hv6
          subst hv6
          go_wp2
          go_roundw
          case rel => exact ⟨f', m, c6, A6, os ++ [x], popL tlt t0 rs, rfl, by rw [popL_length, HRL.out, HM.out]; rfl, e2, by simp; omega, by rw [← HUN.out, E1.out]; simp, hown6.mono hb5.size, hown'.below hb6, own_apart2' hown6 hown', hb5.trans (hb6.mono hb5.size)⟩
          case measure => exact hmn
        · have b3 : decide (x.e ≤ mark) = false := by simp [hle]
          have hu : (os, rs) = U := by rw [← hun, untilL_stop _ hx (by simp [hle])]; simp
          have HUU := Lib.hid hu
          clear hu hun hrl hx hm
          go_wp2
          go_ret3
          rw [HS.out]
          exact ⟨_, _, rfl, by rw [← HUU.out]; exact howo.mono hbw.size, by rw [← HUU.out]; exact hown.mono hbw.size, hbw.trans (hb.mono hbw.size)⟩
  · have b0 : (q != 0) = true := by simp [h0]
    have hs : tuntil l mark = ([], [], q) := by unfold tuntil; rw [if_pos (by rw [← hq]; exact h0), ← hq]
    have HS := Lib.hid hs
    clear hs h0 hq
    go_enter Try.func34, Try.ntmps34
    go_wp2_with (first
      | (go_at_call 22; refine (HCK.out _ (rd_grown hr (by repeat (first | with_reducible exact Below.refl _ _ | with_reducible assumption | (with_reducible exact Env.below (by assumption)) | (with_reducible refine below_new ?_ _) | (with_reducible refine below_drew ?_) | (with_reducible refine below_drewN ?_ _) | (with_reducible refine below_put ?_ ?_ _; rotate_left 1; (dsimp only; omega)) | (with_reducible refine below_then ?_ (by assumption)))))).mono ?_; rw [← HQ.out]; rintro e w1 ⟨rfl, hb1⟩; replace hL := (by with_reducible first | exact hL.below hb1 | exact (hL.new _ _).below hb1 | exact ((hL.new _ _).new _ _).below hb1 | exact (((hL.new _ _).new _ _).new _ _).below hb1 | exact ((((hL.new _ _).new _ _).new _ _).new _ _).below hb1); (repeat rw [World.size_alloc] at hL); have hF := hL; (repeat unfold Loc at hF)))
    go_ret3
    exact ⟨.slice none 0 0, .slice none 0 0, by simp [HS.out], by rw [HS.out]; exact Own.nil _ _ _, by rw [HS.out]; exact Own.nil _ _ _, (by repeat (first | with_reducible exact Below.refl _ _ | with_reducible assumption | (with_reducible exact Env.below (by assumption)) | (with_reducible refine below_new ?_ _) | (with_reducible refine below_drew ?_) | (with_reducible refine below_drewN ?_ _) | (with_reducible refine below_put ?_ ?_ _; rotate_left 1; (dsimp only; omega)) | (with_reducible refine below_then ?_ (by assumption))))⟩
end Go.Proofs.Ytffehibdeogjeaa
