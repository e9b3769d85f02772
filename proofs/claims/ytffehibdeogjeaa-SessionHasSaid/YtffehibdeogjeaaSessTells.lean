/- The walk of SessionTells (chapter 15). No condition. -/
import Derived.Test.YtffehibdeogjeaaSessHelp
namespace Go.Proofs.Ytffehibdeogjeaa
open Go.RowKit Go.ChangeShapes Go.WideShapes Go.ChangeAt Go.Deep

def i64ok (x : Int) : Prop := (Lit.int .i64 x).wf = true
theorem ienc_dec (vs : List Value) (h : FitsL [some .i64] vs) : ∃ x, vs = ienc x ∧ i64ok x := by
  obtain ⟨n, vs', rfl, hw, rfl⟩ := h
  exact ⟨n, rfl, hw⟩
def spok (x : Int × Int) : Prop := (Lit.int .i64 x.1).wf = true ∧ (Lit.int .i64 x.2).wf = true
theorem senc_dec (vs : List Value) (h : FitsL [some .i64, some .i64] vs) : ∃ x, vs = senc x ∧ spok x := by
  obtain ⟨n, vs', rfl, hw, m, vs2, rfl, hw2, rfl⟩ := h
  exact ⟨(n, m), rfl, hw, hw2⟩

theorem sfew_len (l : List (Int × Int)) : (sfew l).1.length ≤ l.length := by
  unfold sfew
  split
  · simp
  · exact canon_len l
theorem sadd_len (l : List (Int × Int)) (t g : Int) : (sadd l t g).1.length ≤ l.length + 1 := by
  unfold sadd
  split
  · simp
  · split
    · simp
    · have := sfew_len (l ++ [(t, t + g)]); simpa using this
theorem sof_len (ts : List Int) (g : Int) : (sof ts g).1.length ≤ ts.length := by
  unfold sof
  split
  · simp
  · split
    · simp
    · split
      · have := canon_len (stimes g ts); rwa [stimes_len] at this
      · simp
theorem smerge_len (l m : List (Int × Int)) : (smerge l m).1.length ≤ l.length + m.length := by
  unfold smerge
  split
  · simp
  · split
    · simp
    · have := sfew_len (l ++ m); simpa using this

set_option maxHeartbeats 8000000 in
set_option maxRecDepth 100000 in
theorem sessionTells_walk {w : World} (A : Option Addr) (c : Nat) (l : List (Int × Int)) (_lc : l.length ≤ c) (_lm : c ≤ maxLen) (_lw : ∀ x ∈ l, spok x) (lr : Rd senc 2 w w.heap.size A l) (ln : A = none → c = 0)
    (A' : Option Addr) (c' : Nat) (m : List (Int × Int)) (_mc : m.length ≤ c') (_mm : c' ≤ maxLen) (_mw : ∀ x ∈ m, spok x) (mr : Rd senc 2 w w.heap.size A' m) (mn : A' = none → c' = 0)
    (B : Option Addr) (d : Nat) (ts : List Int) (_tc : ts.length ≤ d) (_tm : d ≤ maxLen) (_tw : ∀ x ∈ ts, i64ok x) (tr : Rd ienc 1 w w.heap.size B ts)
    (t : Int) (_wt : (Lit.int .i64 t).wf = true) (g : Int) (_wg : (Lit.int .i64 g).wf = true) :
    Calls Try.prog 16 #[.slice A l.length c, .slice A' m.length c', .slice B ts.length d, .int .i64 t, .int .i64 g] w fun r w' => r = .returned (.bool true) ∧ Below w.heap.size w w' := by
  obtain ⟨n1, hn1⟩ : ∃ n, n = l.length := ⟨_, rfl⟩
  obtain ⟨n2, hn2⟩ : ∃ n, n = m.length := ⟨_, rfl⟩
  obtain ⟨n3, hn3⟩ : ∃ n, n = ts.length := ⟨_, rfl⟩
  rw [← hn1, ← hn2, ← hn3]
  obtain ⟨b1, hb1⟩ : ∃ b, b = decide (100 < (n1 : Int) ∧ (n1 : Int) < 3999 ∨ 4002 < (n1 : Int)) := ⟨_, rfl⟩
  obtain ⟨b2, hb2⟩ : ∃ b, b = decide (100 < (n2 : Int) ∧ (n2 : Int) < 3999 ∨ 4002 < (n2 : Int)) := ⟨_, rfl⟩
  obtain ⟨b3, hb3⟩ : ∃ b, b = decide (100 < (n3 : Int) ∧ (n3 : Int) < 3999 ∨ 4002 < (n3 : Int)) := ⟨_, rfl⟩
  have g1 := fun W => sgreat_any (n1 : Int) W
  have g2 := fun W => sgreat_any (n2 : Int) W
  have g3 := fun W => sgreat_any (n3 : Int) W
  rw [← hb1] at g1
  rw [← hb2] at g2
  rw [← hb3] at g3
  have G1 := Lib.hid g1; have G2 := Lib.hid g2; have G3 := Lib.hid g3
  clear g1 g2 g3
  have hL : Loc w [] := trivial
  cases b1 with
  | true =>
    clear hb1 hb2 hb3 hn1 hn2 hn3
    go_enter Try.func16, Try.ntmps16
    go_wp2_with fail
    go_at_call 64
    refine (G1.out _).mono ?_
    rintro r w1 ⟨rfl, rfl⟩
    go_wp2
    go_ret
    exact ⟨rfl, (by repeat (first | with_reducible exact Below.refl _ _ | with_reducible assumption | (with_reducible exact Env.below (by assumption)) | (with_reducible refine below_new ?_ _) | (with_reducible refine below_drew ?_) | (with_reducible refine below_drewN ?_ _) | (with_reducible refine below_put ?_ ?_ _; rotate_left 1; (dsimp only; omega)) | (with_reducible refine below_then ?_ (by assumption))))⟩
  | false =>
    cases b2 with
    | true =>
      clear hb1 hb2 hb3 hn1 hn2 hn3
      go_enter Try.func16, Try.ntmps16
      go_wp2_with fail
      go_at_call 64
      refine (G1.out _).mono ?_
      rintro r w1 ⟨rfl, rfl⟩
      go_wp2_with fail
      go_at_call 64
      refine (G2.out _).mono ?_
      rintro r w1 ⟨rfl, rfl⟩
      go_wp2
      go_ret
      exact ⟨rfl, (by repeat (first | with_reducible exact Below.refl _ _ | with_reducible assumption | (with_reducible exact Env.below (by assumption)) | (with_reducible refine below_new ?_ _) | (with_reducible refine below_drew ?_) | (with_reducible refine below_drewN ?_ _) | (with_reducible refine below_put ?_ ?_ _; rotate_left 1; (dsimp only; omega)) | (with_reducible refine below_then ?_ (by assumption))))⟩
    | false =>
      cases b3 with
      | true =>
        clear hb1 hb2 hb3 hn1 hn2 hn3
        go_enter Try.func16, Try.ntmps16
        go_wp2_with fail
        go_at_call 64
        refine (G1.out _).mono ?_
        rintro r w1 ⟨rfl, rfl⟩
        go_wp2_with fail
        go_at_call 64
        refine (G2.out _).mono ?_
        rintro r w1 ⟨rfl, rfl⟩
        go_wp2_with fail
        go_at_call 64
        refine (G3.out _).mono ?_
        rintro r w1 ⟨rfl, rfl⟩
        go_wp2
        go_ret
        exact ⟨rfl, (by repeat (first | with_reducible exact Below.refl _ _ | with_reducible assumption | (with_reducible exact Env.below (by assumption)) | (with_reducible refine below_new ?_ _) | (with_reducible refine below_drew ?_) | (with_reducible refine below_drewN ?_ _) | (with_reducible refine below_put ?_ ?_ _; rotate_left 1; (dsimp only; omega)) | (with_reducible refine below_then ?_ (by assumption))))⟩
      | false =>
        have m1 := of_decide_eq_false hb1.symm
        have m2 := of_decide_eq_false hb2.symm
        have m3 := of_decide_eq_false hb3.symm
        have k1 : n1 ≤ 4002 := by omega
        have k2 : n2 ≤ 4002 := by omega
        have k3 : n3 ≤ 4002 := by omega
        obtain ⟨P, p, hP⟩ : ∃ P p, sadd l t g = (P, p) := ⟨_, _, rfl⟩
        obtain ⟨U, u, hU⟩ : ∃ U u, sof ts g = (U, u) := ⟨_, _, rfl⟩
        obtain ⟨V, v, hV⟩ : ∃ V v, smerge l m = (V, v) := ⟨_, _, rfl⟩
        have c1 := fun W h => sadd_any A c n1 l t g W hn1.symm ln (by omega) h
        have c2 := fun W h => rsadd_any A c n1 l t g W hn1.symm (by omega) h
        have c3 := fun W h => sof_any B d n3 ts g W hn3.symm h
        have c4 := fun W h => rsof_any B d n3 ts g W hn3.symm h
        have c5 := fun W h h' => smerge_any A A' c c' n1 n2 l m W hn1.symm hn2.symm ln mn (by omega) (by omega) h h'
        have c6 := fun W h h' => rsmerge_any A A' c c' n1 n2 l m W hn1.symm hn2.symm ln (by omega) (by omega) h h'
        rw [hP] at c1 c2
        rw [hU] at c3 c4
        rw [hV] at c5 c6
        have pl : P.length ≤ 5000 := by have := sadd_len l t g; rw [hP] at this; simp only at this; omega
        have ul : U.length ≤ 5000 := by have := sof_len ts g; rw [hU] at this; simp only at this; omega
        have vl : V.length ≤ 10000 := by have := smerge_len l m; rw [hV] at this; simp only at this; omega
        have C1 := Lib.hid c1; have C2 := Lib.hid c2; have C3 := Lib.hid c3; have C4 := Lib.hid c4; have C5 := Lib.hid c5; have C6 := Lib.hid c6
        clear c1 c2 c3 c4 c5 c6 hb1 hb2 hb3 hn1 hn2 hn3 hP hU hV m1 m2 m3 ln mn
        go_enter Try.func16, Try.ntmps16
        go_wp2_with fail
        go_at_call 64
        refine (G1.out _).mono ?_
        rintro r w1 ⟨rfl, rfl⟩
        go_wp2_with fail
        go_at_call 64
        refine (G2.out _).mono ?_
        rintro r w1 ⟨rfl, rfl⟩
        go_wp2_with fail
        go_at_call 64
        refine (G3.out _).mono ?_
        rintro r w1 ⟨rfl, rfl⟩
        go_wp2_with fail
        go_at_call 62
        refine (C1.out _ (rd_grown lr (by repeat (first | with_reducible exact Below.refl _ _ | with_reducible assumption | (with_reducible exact Env.below (by assumption)) | (with_reducible refine below_new ?_ _) | (with_reducible refine below_drew ?_) | (with_reducible refine below_drewN ?_ _) | (with_reducible refine below_put ?_ ?_ _; rotate_left 1; (dsimp only; omega)) | (with_reducible refine below_then ?_ (by assumption)))))).mono ?_
        rintro r w3 ⟨v3, rfl, own3, hb3⟩
        obtain ⟨A3, e3, rfl, -⟩ := own_shape_n own3 rfl
        replace hL := (by with_reducible first | exact hL.below hb3 | exact (hL.new _ _).below hb3 | exact ((hL.new _ _).new _ _).below hb3 | exact (((hL.new _ _).new _ _).new _ _).below hb3 | exact ((((hL.new _ _).new _ _).new _ _).new _ _).below hb3); (repeat rw [World.size_alloc] at hL); have hF := hL; (repeat unfold Loc at hF)
        go_wp2_with fail
        go_at_call 65
        refine (C2.out _ (rd_grown lr (by repeat (first | with_reducible exact Below.refl _ _ | with_reducible assumption | (with_reducible exact Env.below (by assumption)) | (with_reducible refine below_new ?_ _) | (with_reducible refine below_drew ?_) | (with_reducible refine below_drewN ?_ _) | (with_reducible refine below_put ?_ ?_ _; rotate_left 1; (dsimp only; omega)) | (with_reducible refine below_then ?_ (by assumption)))))).mono ?_
        rintro r w4 ⟨v4, rfl, own4, hb4⟩
        obtain ⟨A4, e4, rfl, -⟩ := own_shape_n own4 rfl
        replace hL := (by with_reducible first | exact hL.below hb4 | exact (hL.new _ _).below hb4 | exact ((hL.new _ _).new _ _).below hb4 | exact (((hL.new _ _).new _ _).new _ _).below hb4 | exact ((((hL.new _ _).new _ _).new _ _).new _ _).below hb4); (repeat rw [World.size_alloc] at hL); have hF := hL; (repeat unfold Loc at hF)
        go_wp2_with fail
        go_at_call 59
        refine (C3.out _ (rd_grown tr (by repeat (first | with_reducible exact Below.refl _ _ | with_reducible assumption | (with_reducible exact Env.below (by assumption)) | (with_reducible refine below_new ?_ _) | (with_reducible refine below_drew ?_) | (with_reducible refine below_drewN ?_ _) | (with_reducible refine below_put ?_ ?_ _; rotate_left 1; (dsimp only; omega)) | (with_reducible refine below_then ?_ (by assumption)))))).mono ?_
        rintro r w5 ⟨v5, rfl, own5, hb5⟩
        obtain ⟨A5, e5, rfl, -⟩ := own_shape_n own5 rfl
        replace hL := (by with_reducible first | exact hL.below hb5 | exact (hL.new _ _).below hb5 | exact ((hL.new _ _).new _ _).below hb5 | exact (((hL.new _ _).new _ _).new _ _).below hb5 | exact ((((hL.new _ _).new _ _).new _ _).new _ _).below hb5); (repeat rw [World.size_alloc] at hL); have hF := hL; (repeat unfold Loc at hF)
        go_wp2_with fail
        go_at_call 66
        refine (C4.out _ (rd_grown tr (by repeat (first | with_reducible exact Below.refl _ _ | with_reducible assumption | (with_reducible exact Env.below (by assumption)) | (with_reducible refine below_new ?_ _) | (with_reducible refine below_drew ?_) | (with_reducible refine below_drewN ?_ _) | (with_reducible refine below_put ?_ ?_ _; rotate_left 1; (dsimp only; omega)) | (with_reducible refine below_then ?_ (by assumption)))))).mono ?_
        rintro r w6 ⟨v6, rfl, own6, hb6⟩
        obtain ⟨A6, e6, rfl, -⟩ := own_shape_n own6 rfl
        replace hL := (by with_reducible first | exact hL.below hb6 | exact (hL.new _ _).below hb6 | exact ((hL.new _ _).new _ _).below hb6 | exact (((hL.new _ _).new _ _).new _ _).below hb6 | exact ((((hL.new _ _).new _ _).new _ _).new _ _).below hb6); (repeat rw [World.size_alloc] at hL); have hF := hL; (repeat unfold Loc at hF)
        go_wp2_with fail
        go_at_call 67
        refine (C5.out _ (rd_grown lr (by repeat (first | with_reducible exact Below.refl _ _ | with_reducible assumption | (with_reducible exact Env.below (by assumption)) | (with_reducible refine below_new ?_ _) | (with_reducible refine below_drew ?_) | (with_reducible refine below_drewN ?_ _) | (with_reducible refine below_put ?_ ?_ _; rotate_left 1; (dsimp only; omega)) | (with_reducible refine below_then ?_ (by assumption))))) (rd_grown mr (by repeat (first | with_reducible exact Below.refl _ _ | with_reducible assumption | (with_reducible exact Env.below (by assumption)) | (with_reducible refine below_new ?_ _) | (with_reducible refine below_drew ?_) | (with_reducible refine below_drewN ?_ _) | (with_reducible refine below_put ?_ ?_ _; rotate_left 1; (dsimp only; omega)) | (with_reducible refine below_then ?_ (by assumption)))))).mono ?_
        rintro r w7 ⟨v7, rfl, own7, hb7⟩
        obtain ⟨A7, e7, rfl, -⟩ := own_shape_n own7 rfl
        replace hL := (by with_reducible first | exact hL.below hb7 | exact (hL.new _ _).below hb7 | exact ((hL.new _ _).new _ _).below hb7 | exact (((hL.new _ _).new _ _).new _ _).below hb7 | exact ((((hL.new _ _).new _ _).new _ _).new _ _).below hb7); (repeat rw [World.size_alloc] at hL); have hF := hL; (repeat unfold Loc at hF)
        go_wp2_with fail
        go_at_call 68
        refine (C6.out _ (rd_grown lr (by repeat (first | with_reducible exact Below.refl _ _ | with_reducible assumption | (with_reducible exact Env.below (by assumption)) | (with_reducible refine below_new ?_ _) | (with_reducible refine below_drew ?_) | (with_reducible refine below_drewN ?_ _) | (with_reducible refine below_put ?_ ?_ _; rotate_left 1; (dsimp only; omega)) | (with_reducible refine below_then ?_ (by assumption))))) (rd_grown mr (by repeat (first | with_reducible exact Below.refl _ _ | with_reducible assumption | (with_reducible exact Env.below (by assumption)) | (with_reducible refine below_new ?_ _) | (with_reducible refine below_drew ?_) | (with_reducible refine below_drewN ?_ _) | (with_reducible refine below_put ?_ ?_ _; rotate_left 1; (dsimp only; omega)) | (with_reducible refine below_then ?_ (by assumption)))))).mono ?_
        rintro r w8 ⟨v8, rfl, own8, hb8⟩
        obtain ⟨A8, e8, rfl, -⟩ := own_shape_n own8 rfl
        replace hL := (by with_reducible first | exact hL.below hb8 | exact (hL.new _ _).below hb8 | exact ((hL.new _ _).new _ _).below hb8 | exact (((hL.new _ _).new _ _).new _ _).below hb8 | exact ((((hL.new _ _).new _ _).new _ _).new _ _).below hb8); (repeat rw [World.size_alloc] at hL); have hF := hL; (repeat unfold Loc at hF)
        go_wp2_with fail
        go_at_call 63
        refine (ssame_yes _ _ _ _ _ _ P P _ (rd_grown (Own.rd senc_len own3) (by repeat (first | with_reducible exact Below.refl _ _ | with_reducible assumption | (with_reducible exact Env.below (by assumption)) | (with_reducible refine below_new ?_ _) | (with_reducible refine below_drew ?_) | (with_reducible refine below_drewN ?_ _) | (with_reducible refine below_put ?_ ?_ _; rotate_left 1; (dsimp only; omega)) | (with_reducible refine below_then ?_ (by assumption))))) (rd_grown (Own.rd senc_len own4) (by repeat (first | with_reducible exact Below.refl _ _ | with_reducible assumption | (with_reducible exact Env.below (by assumption)) | (with_reducible refine below_new ?_ _) | (with_reducible refine below_drew ?_) | (with_reducible refine below_drewN ?_ _) | (with_reducible refine below_put ?_ ?_ _; rotate_left 1; (dsimp only; omega)) | (with_reducible refine below_then ?_ (by assumption))))) rfl rfl rfl (by omega)).mono ?_
        rintro r w9 ⟨rfl, hb9⟩
        replace hL := (by with_reducible first | exact hL.below hb9 | exact (hL.new _ _).below hb9 | exact ((hL.new _ _).new _ _).below hb9 | exact (((hL.new _ _).new _ _).new _ _).below hb9 | exact ((((hL.new _ _).new _ _).new _ _).new _ _).below hb9); (repeat rw [World.size_alloc] at hL); have hF := hL; (repeat unfold Loc at hF)
        go_wp2_with fail
        go_at_call 63
        refine (ssame_yes _ _ _ _ _ _ U U _ (rd_grown (Own.rd senc_len own5) (by repeat (first | with_reducible exact Below.refl _ _ | with_reducible assumption | (with_reducible exact Env.below (by assumption)) | (with_reducible refine below_new ?_ _) | (with_reducible refine below_drew ?_) | (with_reducible refine below_drewN ?_ _) | (with_reducible refine below_put ?_ ?_ _; rotate_left 1; (dsimp only; omega)) | (with_reducible refine below_then ?_ (by assumption))))) (rd_grown (Own.rd senc_len own6) (by repeat (first | with_reducible exact Below.refl _ _ | with_reducible assumption | (with_reducible exact Env.below (by assumption)) | (with_reducible refine below_new ?_ _) | (with_reducible refine below_drew ?_) | (with_reducible refine below_drewN ?_ _) | (with_reducible refine below_put ?_ ?_ _; rotate_left 1; (dsimp only; omega)) | (with_reducible refine below_then ?_ (by assumption))))) rfl rfl rfl (by omega)).mono ?_
        rintro r w10 ⟨rfl, hb10⟩
        replace hL := (by with_reducible first | exact hL.below hb10 | exact (hL.new _ _).below hb10 | exact ((hL.new _ _).new _ _).below hb10 | exact (((hL.new _ _).new _ _).new _ _).below hb10 | exact ((((hL.new _ _).new _ _).new _ _).new _ _).below hb10); (repeat rw [World.size_alloc] at hL); have hF := hL; (repeat unfold Loc at hF)
        go_wp2_with fail
        go_at_call 63
        refine (ssame_yes _ _ _ _ _ _ V V _ (rd_grown (Own.rd senc_len own7) (by repeat (first | with_reducible exact Below.refl _ _ | with_reducible assumption | (with_reducible exact Env.below (by assumption)) | (with_reducible refine below_new ?_ _) | (with_reducible refine below_drew ?_) | (with_reducible refine below_drewN ?_ _) | (with_reducible refine below_put ?_ ?_ _; rotate_left 1; (dsimp only; omega)) | (with_reducible refine below_then ?_ (by assumption))))) (rd_grown (Own.rd senc_len own8) (by repeat (first | with_reducible exact Below.refl _ _ | with_reducible assumption | (with_reducible exact Env.below (by assumption)) | (with_reducible refine below_new ?_ _) | (with_reducible refine below_drew ?_) | (with_reducible refine below_drewN ?_ _) | (with_reducible refine below_put ?_ ?_ _; rotate_left 1; (dsimp only; omega)) | (with_reducible refine below_then ?_ (by assumption))))) rfl rfl rfl (by omega)).mono ?_
        rintro r w11 ⟨rfl, hb11⟩
        go_wp2
        go_ret
        exact ⟨rfl, (by repeat (first | with_reducible exact Below.refl _ _ | with_reducible assumption | (with_reducible exact Env.below (by assumption)) | (with_reducible refine below_new ?_ _) | (with_reducible refine below_drew ?_) | (with_reducible refine below_drewN ?_ _) | (with_reducible refine below_put ?_ ?_ _; rotate_left 1; (dsimp only; omega)) | (with_reducible refine below_then ?_ (by assumption))))⟩
end Go.Proofs.Ytffehibdeogjeaa
