/- The contract of timers.Until (chapter 18). Condition: a list of at most 2^40 timers. -/
import Derived.Test.YtffehibdeogjeaaTimersTPop
import Derived.OwnWalk
namespace Go.Proofs.Ytffehibdeogjeaa
open Go.RowKit

/-- What Until gives. -/
noncomputable def tuntil (l : List Tm) (mark : Int) : List Tm × List Tm × Int :=
  if tck l ≠ 0 then ([], [], tck l) else ((untilL tlt t0 (fun t => decide (t.e ≤ mark)) l.length l).1, (untilL tlt t0 (fun t => decide (t.e ≤ mark)) l.length l).2, 0)
/-- The length of a slice. -/
def lenV : Value → Nat
  | .slice _ n _ => n
  | _ => 0
theorem Loc.grown {w w' : World} {r : Option Nat} (hg : w.grownBy w' r) : ∀ {L : List (Nat × List Value)}, (∀ q ∈ L, some q.1 ≠ r) → Loc w L → Loc w' L
  | [], _, _ => trivial
  | (b, _) :: _, hq, ⟨h1, h2, h3, h4⟩ => by
    have e : w'.heap[b]? = w.heap[b]? := hg.block b h1 (hq _ (List.mem_cons_self))
    exact ⟨Nat.lt_of_lt_of_le h1 hg.size, fun i => (World.cell?_of_block (a := ⟨b, i, none⟩) e).trans (h2 i), fun i => (World.frozen?_of_block (a := ⟨b, i, none⟩) e).trans (h3 i), h4.grown hg (fun q h => hq q (List.mem_cons_of_mem _ h))⟩
theorem tm_one (t : Tm) : ∀ u ∈ tenc t, u.oneCell' = true := by
  intro u hu; simp [tenc] at hu; rcases hu with rfl | rfl | rfl <;> rfl
theorem own_apart {α : Type} {enc : α → List Value} {sz : Nat} {w : World} {base g : Nat} {e : TypeId} {v : Value} {l : List α} (h : Own enc sz w base e v l) (hg : g < base) : v.ownBlock = none ∨ v.ownBlock ≠ some g := by
  right
  intro e
  have := (World.ownsRow.lt h g e).1
  omega
theorem own_apart' {α : Type} {enc : α → List Value} {sz : Nat} {w : World} {base g : Nat} {e : TypeId} {v : Value} {l : List α} (h : Own enc sz w base e v l) (hg : w.heap.size ≤ g) : v.ownBlock = none ∨ v.ownBlock ≠ some g := by
  right
  intro e
  have := (World.ownsRow.lt h g e).2
  omega

set_option maxHeartbeats 8000000 in
set_option maxRecDepth 100000 in
theorem tuntil_any (A : Option Addr) (c : Nat) (l : List Tm) (mark : Int) (w : World) (hn : l.length ≤ 1099511627776) (hr : Rd tenc 3 w w.heap.size A l) :
    Calls Try.prog 23 #[.slice A l.length c, .int .i64 mark] w fun e w' =>
      ∃ v u, e = .returned (.tuple #[v, u, .int .i64 (tuntil l mark).2.2]) ∧ Own tenc 3 w' w.heap.size 34 v (tuntil l mark).1 ∧ Own tenc 3 w' w.heap.size 34 u (tuntil l mark).2.1 ∧ Below w.heap.size w w' := by
  have hck := fun W (h : Rd tenc 3 W W.heap.size A l) => tcheck_any A c l W hn h
  have hro := fun W (h : Rd tenc 3 W W.heap.size A l) => room_any A c l W hn h
  obtain ⟨n, hn'⟩ : ∃ n, n = l.length := ⟨_, rfl⟩
  rw [← hn'] at hn hck hro ⊢
  have HN := Lib.hid hn'; have HCK := Lib.hid hck; have HRO := Lib.hid hro
  clear hn' hck hro
  have hL : Loc w [] := trivial
  obtain ⟨q, hq⟩ : ∃ q, q = tck l := ⟨_, rfl⟩
  have HQ := Lib.hid hq
  by_cases h0 : q = 0
  · have b0 : (q != 0) = false := by simp [h0]
    obtain ⟨U, hU⟩ : ∃ U, U = untilL tlt t0 (fun t => decide (t.e ≤ mark)) l.length l := ⟨_, rfl⟩
    have hs : tuntil l mark = (U.1, U.2, 0) := by unfold tuntil; rw [if_neg (by rw [← hq, h0]; simp), hU]
    have HS := Lib.hid hs; have HU := Lib.hid hU
    obtain ⟨i0, hi0, hz0, hz1, hz2⟩ := info_parts tm_info
    clear hs h0 hq hU
    go_enter Try.func23, Try.ntmps23
    go_wp2_with (first
      | (go_at_call 24; refine (HCK.out _ (rd_grown hr (by repeat (first | with_reducible exact Below.refl _ _ | with_reducible assumption | (with_reducible exact Env.below (by assumption)) | (with_reducible refine below_new ?_ _) | (with_reducible refine below_drew ?_) | (with_reducible refine below_drewN ?_ _) | (with_reducible refine below_put ?_ ?_ _; rotate_left 1; (dsimp only; omega)) | (with_reducible refine below_then ?_ (by assumption)))))).mono ?_; rw [← HQ.out]; rintro e w1 ⟨rfl, hb1⟩; replace hL := (by with_reducible first | exact hL.below hb1 | exact (hL.new _ _).below hb1 | exact ((hL.new _ _).new _ _).below hb1 | exact (((hL.new _ _).new _ _).new _ _).below hb1 | exact ((((hL.new _ _).new _ _).new _ _).new _ _).below hb1); (repeat rw [World.size_alloc] at hL); have hF := hL; (repeat unfold Loc at hF))
      | (go_at_call 72; refine (HRO.out _ (rd_grown hr (by repeat (first | with_reducible exact Below.refl _ _ | with_reducible assumption | (with_reducible exact Env.below (by assumption)) | (with_reducible refine below_new ?_ _) | (with_reducible refine below_drew ?_) | (with_reducible refine below_drewN ?_ _) | (with_reducible refine below_put ?_ ?_ _; rotate_left 1; (dsimp only; omega)) | (with_reducible refine below_then ?_ (by assumption)))))).mono ?_; rintro e w2 ⟨g, rfl, hown2, hb2⟩; have hbg := World.ownsRow.lt hown2 g rfl))
    have hbw : Below w.heap.size w w1 := (by repeat (first | with_reducible exact Below.refl _ _ | with_reducible assumption | (with_reducible exact Env.below (by assumption)) | (with_reducible refine below_new ?_ _) | (with_reducible refine below_drew ?_) | (with_reducible refine below_drewN ?_ _) | (with_reducible refine below_put ?_ ?_ _; rotate_left 1; (dsimp only; omega)) | (with_reducible refine below_then ?_ (by assumption))))
    clear hF hL hb1 hr
    go_loopw [8, 9] (fun r o wr => ∃ (f n' : Nat) (os rs : List Tm), r = .slice (some ⟨g, 0, none⟩) n' (n + 1) ∧ rs.length = n' ∧ n' ≤ f ∧ os.length + n' = n ∧
      (os ++ (untilL tlt t0 (fun t => decide (t.e ≤ mark)) f rs).1, (untilL tlt t0 (fun t => decide (t.e ≤ mark)) f rs).2) = U ∧ Own tenc 3 wr w1.heap.size 34 (.slice (some ⟨g, 0, none⟩) n' (n + 1)) rs ∧
      Own tenc 3 wr w2.heap.size 34 o os ∧ Below w1.heap.size w1 wr ∧ w2.heap.size ≤ wr.heap.size) (fun r _ _ => lenV r)
    case atStart => exact ⟨n, n, [], l, rfl, HN.out.symm, Nat.le_refl _, by simp, by rw [HU.out, ← HN.out]; rfl, hown2, Own.nil _ _ _, hb2, Nat.le_refl _⟩
    case round =>
      obtain ⟨f, n', os, rs, rfl, hrl, hnf, hol, hun, hown, howo, hb, hsz⟩ := hrel
      have HRL := Lib.hid hrl
      have HUN := Lib.hid hun
      by_cases hz : n' = 0
      · have b1 : decide ((0 : Int) < (n' : Int)) = false := by simp [hz]
        have b2 : decide (0 < n') = false := by simp [hz]
        have hrs : rs = [] := List.eq_nil_of_length_eq_zero (by rw [hrl, hz])
        have hu : (os, rs) = U := by rw [← hun, hrs, untilL_nil]; simp
        have HUU := Lib.hid hu
        clear hz hrs hu hun hrl
        go_wp2
        go_ret3
        rw [HS.out]
        exact ⟨_, _, rfl, by rw [← HUU.out]; exact howo.mono (Nat.le_trans hbw.size hb2.size), by rw [← HUU.out]; exact hown.mono hbw.size, hbw.trans (hb.mono hbw.size)⟩
      · obtain ⟨x, hx⟩ : ∃ x, rs[0]? = some x := ⟨_, List.getElem?_eq_getElem (by omega)⟩
        obtain ⟨m, hm⟩ : ∃ m, n' = m + 1 := ⟨n' - 1, by omega⟩
        obtain ⟨c1, c2, c3, hglt⟩ := own_tm hown hx
        rw [Nat.zero_mul] at c1
        rw [Nat.zero_mul, Nat.zero_add] at c2 c3
        have b1 : decide ((0 : Int) < (n' : Int)) = true := by simp; omega
        have b2 : decide (0 < n') = true := by simp; omega
        have j1 : (0 : Int) < (n' : Int) := by omega
        have HX := Lib.hid hx; have HM := Lib.hid hm
        by_cases hle : x.e ≤ mark
        · obtain ⟨f', e1, e2⟩ := untilL_step (lt := tlt) (d := t0) (p := fun t => decide (t.e ≤ mark)) (n := f) hx (by omega) (by simp [hle])
          have b3 : decide (x.e ≤ mark) = true := by simp [hle]
          rw [popL_length, hrl, hm] at e2
          have E1 := Lib.hid e1
          have hmn : m < n' := by omega
          have hon : os.length + 1 + m = n := by omega
          clear e1 hx hm hrl hun hz
          go_wp2_with (first
            | (go_at_call 73; refine (pop_any g (n + 1) n' m w1.heap.size rs x _ HRL.out HM.out (by omega) HX.out (hown.alloc _)).mono ?_; rintro e w3 ⟨rfl, hown3, hg3⟩; have hl3 := Loc.grown hg3 (by intro q hq; simp at hq; subst hq; simp; omega) (Loc.new (Loc.nil wr) [.int .i64 0, .int .i64 0, .int .i64 0] 34); have hlF := hl3; (repeat unfold Loc at hlF); have howx := ((((howo.alloc (.cells #[.int .i64 0, .int .i64 0, .int .i64 0] 34)).grown hg3 (own_apart howo hbg.2)).grown (putW_grown wr.heap.size 0 [.int .i64 x.s, .int .i64 x.e, .int .i64 x.k] 0 w3) (own_apart' howo (Nat.le_refl _))).alloc (.cells #[.int .i64 x.s, .int .i64 x.e, .int .i64 x.k] 34)))
            | (at_builtin; refine wpList_append_elem rfl _ _ 22 rfl w2.heap.size 34 i0 (.agg #[.int .i64 0, .int .i64 0, .int .i64 0]) 3 24 Try.underlying22 hi0 hz0 hz1 hz2 rfl (by decide) tenc tenc_len _ _ x rfl howx ⟨w3.heap.size, 0, none⟩ 1 rfl ?c1 (tm_one x) ?c3 ?c4 ?c5 ?_))
          case c1 =>
            intro j u hj
            exact tm_new _ x 34 w3.heap.size (by simp [World.setCell]) j u (by simpa using hj)
          case c3 => unfold maxLen; omega
          case c4 => omega
          case c5 => have := hg3.size; simp at this; simp; omega
          · intro v' w5 hown' hgrow hbel
            have hbz := hb.size
            have hs3 := hg3.size
            rw [World.size_alloc] at hs3
            have hb5 : Below w1.heap.size w1 w5 := ((((((hb.alloc hbz _).grown hg3 (by rw [World.size_alloc]; omega) (fun k hk => by cases hk; exact hbg.1)).setCell (p := ⟨wr.heap.size, 0, none⟩) hbz _).setCell (p := ⟨wr.heap.size, 1, none⟩) hbz _).setCell (p := ⟨wr.heap.size, 2, none⟩) hbz _).alloc (by simp [World.setCell]; omega) _).trans (hbel.mono hb2.size)
            have hown5 := (((hown3.grown (putW_grown wr.heap.size 0 [.int .i64 x.s, .int .i64 x.e, .int .i64 x.k] 0 w3) (.inr (by simp [Value.ownBlock]; omega))).alloc (.cells #[.int .i64 x.s, .int .i64 x.e, .int .i64 x.k] 34)).grown hgrow (.inr (by rcases own_apart howo hbg.2 with h | h; (rw [h]; simp [Value.ownBlock]); (intro e; exact h e.symm))))
            have hs5 := hgrow.size
            simp only [World.size_alloc, World.size_setCell] at hs5
            clear hgrow hbel hlF hl3 hg3 howx
            go_wp2
            go_roundw
            case rel => exact ⟨f', m, os ++ [x], popL tlt t0 rs, rfl, by rw [popL_length, HRL.out, HM.out]; rfl, e2, by simp; omega, by rw [← HUN.out, E1.out]; simp, hown5, hown', hb5, by omega⟩
            case measure => exact hmn
        · have b3 : decide (x.e ≤ mark) = false := by simp [hle]
          have hu : (os, rs) = U := by rw [← hun, untilL_stop _ hx (by simp [hle])]; simp
          have HUU := Lib.hid hu
          clear hu hun hrl hx hm
          go_wp2
          go_ret3
          rw [HS.out]
          exact ⟨_, _, rfl, by rw [← HUU.out]; exact howo.mono (Nat.le_trans hbw.size hb2.size), by rw [← HUU.out]; exact hown.mono hbw.size, hbw.trans (hb.mono hbw.size)⟩
  · have b0 : (q != 0) = true := by simp [h0]
    have hs : tuntil l mark = ([], [], q) := by unfold tuntil; rw [if_pos (by rw [← hq]; exact h0), ← hq]
    have HS := Lib.hid hs
    clear hs h0 hq
    go_enter Try.func23, Try.ntmps23
    go_wp2_with (first
      | (go_at_call 24; refine (HCK.out _ (rd_grown hr (by repeat (first | with_reducible exact Below.refl _ _ | with_reducible assumption | (with_reducible exact Env.below (by assumption)) | (with_reducible refine below_new ?_ _) | (with_reducible refine below_drew ?_) | (with_reducible refine below_drewN ?_ _) | (with_reducible refine below_put ?_ ?_ _; rotate_left 1; (dsimp only; omega)) | (with_reducible refine below_then ?_ (by assumption)))))).mono ?_; rw [← HQ.out]; rintro e w1 ⟨rfl, hb1⟩; replace hL := (by with_reducible first | exact hL.below hb1 | exact (hL.new _ _).below hb1 | exact ((hL.new _ _).new _ _).below hb1 | exact (((hL.new _ _).new _ _).new _ _).below hb1 | exact ((((hL.new _ _).new _ _).new _ _).new _ _).below hb1); (repeat rw [World.size_alloc] at hL); have hF := hL; (repeat unfold Loc at hF)))
    go_ret3
    exact ⟨.slice none 0 0, .slice none 0 0, by simp [HS.out], by rw [HS.out]; exact Own.nil _ _ _, by rw [HS.out]; exact Own.nil _ _ _, (by repeat (first | with_reducible exact Below.refl _ _ | with_reducible assumption | (with_reducible exact Env.below (by assumption)) | (with_reducible refine below_new ?_ _) | (with_reducible refine below_drew ?_) | (with_reducible refine below_drewN ?_ _) | (with_reducible refine below_put ?_ ?_ _; rotate_left 1; (dsimp only; omega)) | (with_reducible refine below_then ?_ (by assumption))))⟩
end Go.Proofs.Ytffehibdeogjeaa
