/- Lemmas and contracts for the statement, joined into one text: StoreMerge, EnRows, StoreSearch. The conditions of each stand at its head. -/
import Derived.Test.YtnljihjhmgpcoaaGreatJ1
import Derived.Test.YtnljihjhmgpcoaaGreatJ6
import Derived.Test.YtnljihjhmgpcoaaGreatJ8
import Derived.Laws.IdiomCopy
namespace Go.Proofs.YtnljihjhmgpcoaaGreat
open Go.RowKit
theorem en_info : (Tryz.prog.info? 62).map (fun i => (i.zero, i.size, i.bytes)) = some (some (.agg #[.int .i64 0, .int .i64 0, .int .i64 0, .int .i64 0, .int .i64 0, .int .i64 0, .int .i64 0, .int .i64 0, .int .i64 0, .int .i64 0, .int .i64 0]), 11, 88) := by kernel_rfl
theorem own_en {w : World} {base : Nat} {e : TypeId} {g n cap : Nat} {l : List En} (h : Own enenc 11 w base e (.slice (some ⟨g, 0, none⟩) n cap) l) {k : Nat} {x : En} (hx : l[k]? = some x) :
  g < w.heap.size ∧ w.cell? ⟨g, k * 11, none⟩ = some (.int .i64 x.k) ∧ w.cell? ⟨g, k * 11 + 1, none⟩ = some (.int .i64 x.s) ∧ w.cell? ⟨g, k * 11 + 2, none⟩ = some (.int .i64 x.e) ∧ w.cell? ⟨g, k * 11 + 3, none⟩ = some (.int .i64 x.c1) ∧ w.cell? ⟨g, k * 11 + 4, none⟩ = some (.int .i64 x.s1) ∧ w.cell? ⟨g, k * 11 + 5, none⟩ = some (.int .i64 x.m1) ∧ w.cell? ⟨g, k * 11 + 6, none⟩ = some (.int .i64 x.x1) ∧ w.cell? ⟨g, k * 11 + 7, none⟩ = some (.int .i64 x.c2) ∧ w.cell? ⟨g, k * 11 + 8, none⟩ = some (.int .i64 x.s2) ∧ w.cell? ⟨g, k * 11 + 9, none⟩ = some (.int .i64 x.m2) ∧ w.cell? ⟨g, k * 11 + 10, none⟩ = some (.int .i64 x.x2) := by
 obtain ⟨b, off, e, hb, c0, c1, c2, c3, c4, c5, c6, c7, c8, c9, c10⟩ := en_cells (Own.rd enenc_len h) hx
 simp only [Option.some.injEq, Addr.mk.injEq, and_true] at e
 obtain ⟨rfl, rfl⟩ := e
 simp only [Nat.zero_add] at c0 c1 c2 c3 c4 c5 c6 c7 c8 c9 c10
 exact ⟨hb, c0, c1, c2, c3, c4, c5, c6, c7, c8, c9, c10⟩
theorem grown_of_below {w w' : World} (hb : Below w.heap.size w w') (r : Option Nat) : w.grownBy w' r := ⟨hb.os, hb.tape, hb.output, hb.size, fun k hk _ => hb.block k hk⟩
/-- Some cells of an element stored. -/
theorem putL_in {α : Type} {enc : α → List Value} {sz : Nat} (henc : ∀ x, (enc x).length = sz) {x x' : α} {o : Nat} {us : List Value} (hu : putL (enc x) o 0 us = enc x') (hfit : o + us.length ≤ sz) :
  ∀ (l : List α) (i : Nat), l[i]? = some x → putL (l.flatMap enc) (i * sz + o) 0 us = (l.set i x').flatMap enc
 | [], i, h => by simp at h
 | y :: l, 0, h => by
  simp at h
  subst h
  rw [List.flatMap_cons, Nat.zero_mul, Nat.zero_add, putL_append_left _ _ _ _ _ (by rw [henc]; omega), hu, List.set_cons_zero, List.flatMap_cons]
 | y :: l, i + 1, h => by
  have e : (i + 1) * sz + o = (enc y).length + (i * sz + o) := by rw [henc, Nat.add_mul]; omega
  rw [List.flatMap_cons, e, putL_append_right, putL_in henc hu hfit l i (by simpa using h), List.set_cons_succ, List.flatMap_cons]
theorem own_put {w : World} {base : Nat} {e : TypeId} {g n cap : Nat} {l : List En} (h : Own enenc 11 w base e (.slice (some ⟨g, 0, none⟩) n cap) l) {i : Nat} {x x' : En} (hx : l[i]? = some x) {o : Nat} {us : List Value} (hu : putL (enenc x) o 0 us = enenc x') (hfit : o + us.length ≤ 11) :
  Own enenc 11 (putW w g (i * 11 + o) 0 us) base e (.slice (some ⟨g, 0, none⟩) n cap) (l.set i x') ∧ w.grownBy (putW w g (i * 11 + o) 0 us) (some g) := by
 obtain ⟨A, c, hv, -⟩ := h.form
 obtain rfl : n = l.length := by injection hv
 obtain ⟨h1, h2⟩ := row_put (sz := 11) (i * 11 + o) us _ 0 w h
 rw [putL_in enenc_len hu hfit l i hx] at h1
 refine ⟨?_, h2⟩
 unfold Own
 rw [List.length_set]
 exact h1
theorem own_side1 {w : World} {base : Nat} {e : TypeId} {g n cap : Nat} {l : List En} (h : Own enenc 11 w base e (.slice (some ⟨g, 0, none⟩) n cap) l) {i : Nat} {x : En} (hx : l[i]? = some x) (a : Acc) :
  Own enenc 11 ((((w.setCell ⟨g, i * 11 + 3, none⟩ (.int .i64 a.c)).setCell ⟨g, i * 11 + 4, none⟩ (.int .i64 a.s)).setCell ⟨g, i * 11 + 5, none⟩ (.int .i64 a.m)).setCell ⟨g, i * 11 + 6, none⟩ (.int .i64 a.x)) base e (.slice (some ⟨g, 0, none⟩) n cap) (l.set i (mkEn x.k x.s x.e a x.b)) ∧
   w.grownBy ((((w.setCell ⟨g, i * 11 + 3, none⟩ (.int .i64 a.c)).setCell ⟨g, i * 11 + 4, none⟩ (.int .i64 a.s)).setCell ⟨g, i * 11 + 5, none⟩ (.int .i64 a.m)).setCell ⟨g, i * 11 + 6, none⟩ (.int .i64 a.x)) (some g) :=
 own_put h hx (o := 3) (us := [.int .i64 a.c, .int .i64 a.s, .int .i64 a.m, .int .i64 a.x]) rfl (by simp)
theorem own_side2 {w : World} {base : Nat} {e : TypeId} {g n cap : Nat} {l : List En} (h : Own enenc 11 w base e (.slice (some ⟨g, 0, none⟩) n cap) l) {i : Nat} {x : En} (hx : l[i]? = some x) (a : Acc) :
  Own enenc 11 ((((w.setCell ⟨g, i * 11 + 7, none⟩ (.int .i64 a.c)).setCell ⟨g, i * 11 + 8, none⟩ (.int .i64 a.s)).setCell ⟨g, i * 11 + 9, none⟩ (.int .i64 a.m)).setCell ⟨g, i * 11 + 10, none⟩ (.int .i64 a.x)) base e (.slice (some ⟨g, 0, none⟩) n cap) (l.set i (mkEn x.k x.s x.e x.a a)) ∧
   w.grownBy ((((w.setCell ⟨g, i * 11 + 7, none⟩ (.int .i64 a.c)).setCell ⟨g, i * 11 + 8, none⟩ (.int .i64 a.s)).setCell ⟨g, i * 11 + 9, none⟩ (.int .i64 a.m)).setCell ⟨g, i * 11 + 10, none⟩ (.int .i64 a.x)) (some g) :=
 own_put h hx (o := 7) (us := [.int .i64 a.c, .int .i64 a.s, .int .i64 a.m, .int .i64 a.x]) rfl (by simp)
theorem own_free {α : Type} {enc : α → List Value} {sz : Nat} {w : World} {base : Nat} {e : TypeId} {g n cap : Nat} {l : List α} (h : Own enc sz w base e (.slice (some ⟨g, 0, none⟩) n cap) l) : ∀ o, w.frozen? ⟨g, o, none⟩ = false := fun o => by
 obtain ⟨A, c, hv, -⟩ := h.form
 obtain rfl : n = l.length := by injection hv
 exact World.ownsRow.frozenAt h o
theorem ajoin_two {a b : Acc} (ha : a.ok) (hb : b.ok) : ajoin a b = (aboth a b, 0) ∧ a.c + b.c ≤ 1073741824 ∧ (aboth a b).ok ∨ ajoin a b = (⟨0, 0, 0, 0⟩, 4) ∧ 1073741824 < a.c + b.c := by
 by_cases h : 1073741824 < a.c + b.c
 ·exact .inr ⟨by unfold ajoin; rw [if_neg (by simp [ha, hb]), if_pos h], h⟩
 ·exact .inl ⟨by unfold ajoin; rw [if_neg (by simp [ha, hb]), if_neg h], by omega, both_ok ha hb (by omega)⟩
/-- Values joined with an entry's. -/
def mrg (x : En) (a b : Acc) : En := mkEn x.k x.s x.e (aboth x.a a) (aboth x.b b)
def mrg1 (x : En) (a : Acc) : En := mkEn x.k x.s x.e (aboth x.a a) x.b
theorem idx_acc0 (c s m x d t n y : Int) (W : World) : (Instr.index 60 (.agg #[.int .i64 c, .int .i64 s, .int .i64 m, .int .i64 x, .int .i64 d, .int .i64 t, .int .i64 n, .int .i64 y]) (.int .i64 0)).run Tryz.prog W = .ok (.agg #[.int .i64 c, .int .i64 s, .int .i64 m, .int .i64 x]) W := by kernel_rfl
theorem idx_acc1 (c s m x d t n y : Int) (W : World) : (Instr.index 60 (.agg #[.int .i64 c, .int .i64 s, .int .i64 m, .int .i64 x, .int .i64 d, .int .i64 t, .int .i64 n, .int .i64 y]) (.int .i64 1)).run Tryz.prog W = .ok (.agg #[.int .i64 d, .int .i64 t, .int .i64 n, .int .i64 y]) W := by kernel_rfl
/-- What merge leaves. -/
def MergeP (g n cap base i : Nat) (e : TypeId) (l : List En) (x : En) (a b : Acc) (w : World) (r : Ending) (w' : World) : Prop :=
 ∃ (err : Int) (x' : En), r = .returned (.int .i64 err) ∧ Own enenc 11 w' base e (.slice (some ⟨g, 0, none⟩) n cap) (l.set i x') ∧ w.grownBy w' (some g) ∧ (err = 0 ∧ x' = mrg x a b ∧ fitE x' = true ∨ err = 4 ∧ fitE (mrg x a b) = false)
set_option maxHeartbeats 4000000 in
set_option maxRecDepth 100000 in
theorem merge_any (g n cap base i : Nat) (e : TypeId) (l : List En) (x : En) (a b : Acc) (w : World) (hx : l[i]? = some x) (hown : Own enenc 11 w base e (.slice (some ⟨g, 0, none⟩) n cap) l)
  (ha : a.ok) (hb : b.ok) (hxa : x.a.ok) (hxb : x.b.ok) :
  Calls Tryz.prog 93 #[.pointer (some ⟨g, i * 11, none⟩), .agg #[.int .i64 a.c, .int .i64 a.s, .int .i64 a.m, .int .i64 a.x, .int .i64 b.c, .int .i64 b.s, .int .i64 b.m, .int .i64 b.x]] w (MergeP g n cap base i e l x a b w) := by
 obtain ⟨hil, -⟩ := List.getElem?_eq_some_iff.1 hx
 have hset0 : l.set i x = l := by
  obtain ⟨h1, rfl⟩ := List.getElem?_eq_some_iff.1 hx
  exact List.set_getElem_self h1
 have HX := Lib.hid hset0
 clear hset0
 go_enter Tryz.func93, Tryz.ntmps93
 go_wp2_with fail
 go_loopw [10] (fun s wr => ∃ (k : Int) (y : En), s = .int .i64 k ∧ Own enenc 11 wr base e (.slice (some ⟨g, 0, none⟩) n cap) (l.set i y) ∧ w.grownBy wr (some g) ∧ (k = 0 ∧ y = x ∨ k = 1 ∧ y = mrg1 x a ∧ (aboth x.a a).ok ∨ k = 2 ∧ y = mrg x a b ∧ fitE (mrg x a b) = true)) (fun s _ => 2 - (intOf s).toNat)
 case atStart => exact ⟨0, x, rfl, by rw [HX.out]; exact hown.alloc _, World.grownBy_alloc w _ _, .inl ⟨rfl, rfl⟩⟩
 case round =>
  obtain ⟨k, y, rfl, ho, hgr, hc⟩ := hrel
  obtain ⟨hg, c0, c1, c2, c3, c4, c5, c6, c7, c8, c9, c10⟩ := own_en ho (k := i) (x := y) (by simp [hil])
  rcases hc with ⟨rfl, rfl⟩ | ⟨rfl, hy, hok⟩ | ⟨rfl, hy, hfit⟩
  ·obtain ⟨⟨jv, je⟩, hJ⟩ : ∃ J, J = ajoin y.a a := ⟨_, rfl⟩
   have hjo := fun W => ajoin_any y.c1 y.s1 y.m1 y.x1 a.c a.s a.m a.x W
   rw [show (⟨y.c1, y.s1, y.m1, y.x1⟩ : Acc) = y.a from rfl, show (⟨a.c, a.s, a.m, a.x⟩ : Acc) = a from rfl, ← hJ] at hjo
   have HJ := Lib.hid hJ
   have HO := Lib.hid hjo
   clear hJ hjo
   have i0 := idx_acc0 a.c a.s a.m a.x b.c b.s b.m b.x
   go_wp2_with fail
   have hLb := Loc.new (Loc.nil wr) [.int .i64 a.c, .int .i64 a.s, .int .i64 a.m, .int .i64 a.x] 57
   obtain ⟨lE, hE, hR⟩ := Env.abs (w0 := wr) (below_new (Below.refl _ _) _) hLb
   (repeat unfold Loc at hR)
   have hRg : ∀ X, Env wr lE X → X.cell? ⟨g, i * 11 + 3, none⟩ = some (.int .i64 y.c1) ∧ X.cell? ⟨g, i * 11 + 4, none⟩ = some (.int .i64 y.s1) ∧ X.cell? ⟨g, i * 11 + 5, none⟩ = some (.int .i64 y.m1) ∧ X.cell? ⟨g, i * 11 + 6, none⟩ = some (.int .i64 y.x1) := fun X hX => ⟨(hX.1.cell (p := ⟨g, i * 11 + 3, none⟩) hg).trans c3, (hX.1.cell (p := ⟨g, i * 11 + 4, none⟩) hg).trans c4, (hX.1.cell (p := ⟨g, i * 11 + 5, none⟩) hg).trans c5, (hX.1.cell (p := ⟨g, i * 11 + 6, none⟩) hg).trans c6⟩
   refine hB (Env wr lE) fun hHeld => ?_
   refine hT 0 ?_; refine hT 1 ?_; refine hT 2 ?_; refine hT 3 ?_; refine hT 4 ?_; refine hT 5 ?_; refine hT 6 ?_
   refine wpAnyH_ready (rs := [7, 11]) (by kernel_rfl) (by simp) ?_
   refine hCons 7 (by decide) ?_ (hCons 11 (by decide) ?_ AllReadyH.nil)
   ·(intro oi hoi; simp only [List.getElem?_toArray, List.getElem?_cons_succ, List.getElem?_cons_zero] at hoi; obtain rfl := Option.some.inj hoi; clear hoi); intro K hK
    go_simp
    go_at_call 37
    refine (HO.out _).mono ?_
    rintro r w1 ⟨rfl, hb1⟩
    have hEhb1 := Env.step hb1 (by assumption); (try (have hqhb1 := kq hb1; (repeat rw [World.size_drew] at hqhb1); (repeat rw [World.size_alloc] at hqhb1); have hrhb1 := hqhb1; (repeat unfold Loc at hrhb1)))
    (refine hKp hK fun hHeld => ?_; clear hK K)
    refine hT 8 ?_; refine hT 9 ?_; refine hT 10 ?_
    refine hC 11 fun K hK => ?_; go_simp
    (refine hKp hK fun hHeld => ?_; clear hK K)
    refine hC 12 fun K hK => ?_; go_simp
    (refine hKp hK fun hHeld => ?_; clear hK K)
    refine hT 13 ?_
    refine hD ?_
    have hoW := ho.below hHeld.1
    have hgW := grown_trans hgr (grown_of_below hHeld.1 (some g))
    obtain ⟨r3, r4, r5, r6⟩ := hRg _ hHeld
    have hfz := own_free hoW
    clear hRg hR hE
    rcases ajoin_two hxa ha with ⟨hj, hle, hok⟩ | ⟨hj, hgt⟩
    ·obtain ⟨rfl, rfl⟩ : jv = aboth y.a a ∧ je = 0 := by have h := HJ.out; rw [hj] at h; exact Prod.mk.injEq .. |>.mp h
     go_wp2_with fail
     go_region
     all_goals
      obtain ⟨o1, g1⟩ := own_side1 hoW (i := i) (x := y) (by simp [hil]) (aboth y.a a)
      go_wp2
      go_roundw
      case rel => exact ⟨1, mrg1 y a, rfl, by rw [List.set_set] at o1; exact own_drew o1, grown_trans hgW (grown_trans g1 (grown_of_below (below_drew (Below.refl _ _)) _)), .inr (.inl ⟨rfl, rfl, hok⟩)⟩
      case measure => simp [intOf]
    ·obtain ⟨rfl, rfl⟩ : jv = ⟨0, 0, 0, 0⟩ ∧ je = 4 := by have h := HJ.out; rw [hj] at h; exact Prod.mk.injEq .. |>.mp h
     go_wp2
     go_ret
     exact ⟨4, y, rfl, hoW, hgW, .inr ⟨rfl, by unfold fitE; simp only [decide_eq_false_iff_not]; exact fun hh => by have h1 := both_c (wk_ok hxa) (wk_ok ha); have h2 : (mrg y a b).c1 = (aboth y.a a).c := rfl; omega⟩⟩
   ·(intro oi hoi; simp only [List.getElem?_toArray, List.getElem?_cons_succ, List.getElem?_cons_zero] at hoi; obtain rfl := Option.some.inj hoi; clear hoi); intro K hK
    go_simp
    (refine hKp hK fun hHeld => ?_; clear hK K)
    refine hC 7 fun K hK => ?_; go_simp
    go_at_call 37
    refine (HO.out _).mono ?_
    rintro r w1 ⟨rfl, hb1⟩
    have hEhb1 := Env.step hb1 (by assumption); (try (have hqhb1 := kq hb1; (repeat rw [World.size_drew] at hqhb1); (repeat rw [World.size_alloc] at hqhb1); have hrhb1 := hqhb1; (repeat unfold Loc at hrhb1)))
    (refine hKp hK fun hHeld => ?_; clear hK K)
    refine hT 8 ?_; refine hT 9 ?_; refine hT 10 ?_
    refine hC 12 fun K hK => ?_; go_simp
    (refine hKp hK fun hHeld => ?_; clear hK K)
    refine hT 13 ?_
    refine hD ?_
    have hoW := ho.below hHeld.1
    have hgW := grown_trans hgr (grown_of_below hHeld.1 (some g))
    obtain ⟨r3, r4, r5, r6⟩ := hRg _ hHeld
    have hfz := own_free hoW
    clear hRg hR hE
    rcases ajoin_two hxa ha with ⟨hj, hle, hok⟩ | ⟨hj, hgt⟩
    ·obtain ⟨rfl, rfl⟩ : jv = aboth y.a a ∧ je = 0 := by have h := HJ.out; rw [hj] at h; exact Prod.mk.injEq .. |>.mp h
     go_wp2_with fail
     go_region
     all_goals
      obtain ⟨o1, g1⟩ := own_side1 hoW (i := i) (x := y) (by simp [hil]) (aboth y.a a)
      go_wp2
      go_roundw
      case rel => exact ⟨1, mrg1 y a, rfl, by rw [List.set_set] at o1; exact own_drew o1, grown_trans hgW (grown_trans g1 (grown_of_below (below_drew (Below.refl _ _)) _)), .inr (.inl ⟨rfl, rfl, hok⟩)⟩
      case measure => simp [intOf]
    ·obtain ⟨rfl, rfl⟩ : jv = ⟨0, 0, 0, 0⟩ ∧ je = 4 := by have h := HJ.out; rw [hj] at h; exact Prod.mk.injEq .. |>.mp h
     go_wp2
     go_ret
     exact ⟨4, y, rfl, hoW, hgW, .inr ⟨rfl, by unfold fitE; simp only [decide_eq_false_iff_not]; exact fun hh => by have h1 := both_c (wk_ok hxa) (wk_ok ha); have h2 : (mrg y a b).c1 = (aboth y.a a).c := rfl; omega⟩⟩
  ·have HY := Lib.hid hy; have HOK := Lib.hid hok
   clear hy hok
   obtain ⟨⟨jv, je⟩, hJ⟩ : ∃ J, J = ajoin y.b b := ⟨_, rfl⟩
   have hjo := fun W => ajoin_any y.c2 y.s2 y.m2 y.x2 b.c b.s b.m b.x W
   rw [show (⟨y.c2, y.s2, y.m2, y.x2⟩ : Acc) = y.b from rfl, show (⟨b.c, b.s, b.m, b.x⟩ : Acc) = b from rfl, ← hJ] at hjo
   have HJ := Lib.hid hJ
   have HO := Lib.hid hjo
   clear hJ hjo
   have hyb : y.b.ok := by rw [HY.out]; exact hxb
   have hm : mkEn y.k y.s y.e y.a (aboth y.b b) = mrg x a b := by rw [HY.out]; rfl
   have hfit : y.b.c + b.c ≤ 1073741824 → fitE (mrg x a b) = true := fun hle => by
    have h1 := both_c (wk_ok hyb) (wk_ok hb)
    have h2 : (mrg x a b).c2 = (aboth y.b b).c := by rw [HY.out]; rfl
    have h3 : (mrg x a b).c1 = (aboth x.a a).c := rfl
    have h4 := (Acc.ok_range HOK.out).2
    unfold fitE
    simp only [decide_eq_true_eq]
    omega
   have hnf : 1073741824 < y.b.c + b.c → fitE (mrg x a b) = false := fun hgt => by
    have h1 := both_c (wk_ok hyb) (wk_ok hb)
    have h2 : (mrg x a b).c2 = (aboth y.b b).c := by rw [HY.out]; rfl
    unfold fitE
    simp only [decide_eq_false_iff_not]
    omega
   have HM := Lib.hid hm; have HF := Lib.hid hfit; have HNF := Lib.hid hnf
   clear hm hfit hnf
   have i0 := idx_acc1 a.c a.s a.m a.x b.c b.s b.m b.x
   go_wp2_with fail
   have hLb := Loc.new (Loc.nil wr) [.int .i64 b.c, .int .i64 b.s, .int .i64 b.m, .int .i64 b.x] 57
   obtain ⟨lE, hE, hR⟩ := Env.abs (w0 := wr) (below_new (Below.refl _ _) _) hLb
   (repeat unfold Loc at hR)
   have hRg : ∀ X, Env wr lE X → X.cell? ⟨g, i * 11 + 7, none⟩ = some (.int .i64 y.c2) ∧ X.cell? ⟨g, i * 11 + 8, none⟩ = some (.int .i64 y.s2) ∧ X.cell? ⟨g, i * 11 + 9, none⟩ = some (.int .i64 y.m2) ∧ X.cell? ⟨g, i * 11 + 10, none⟩ = some (.int .i64 y.x2) := fun X hX => ⟨(hX.1.cell (p := ⟨g, i * 11 + 7, none⟩) hg).trans c7, (hX.1.cell (p := ⟨g, i * 11 + 8, none⟩) hg).trans c8, (hX.1.cell (p := ⟨g, i * 11 + 9, none⟩) hg).trans c9, (hX.1.cell (p := ⟨g, i * 11 + 10, none⟩) hg).trans c10⟩
   refine hB (Env wr lE) fun hHeld => ?_
   refine hT 0 ?_; refine hT 1 ?_; refine hT 2 ?_; refine hT 3 ?_; refine hT 4 ?_; refine hT 5 ?_; refine hT 6 ?_
   refine wpAnyH_ready (rs := [7, 11]) (by kernel_rfl) (by simp) ?_
   refine hCons 7 (by decide) ?_ (hCons 11 (by decide) ?_ AllReadyH.nil)
   ·(intro oi hoi; simp only [List.getElem?_toArray, List.getElem?_cons_succ, List.getElem?_cons_zero] at hoi; obtain rfl := Option.some.inj hoi; clear hoi); intro K hK
    go_simp
    go_at_call 37
    refine (HO.out _).mono ?_
    rintro r w1 ⟨rfl, hb1⟩
    have hEhb1 := Env.step hb1 (by assumption); (try (have hqhb1 := kq hb1; (repeat rw [World.size_drew] at hqhb1); (repeat rw [World.size_alloc] at hqhb1); have hrhb1 := hqhb1; (repeat unfold Loc at hrhb1)))
    (refine hKp hK fun hHeld => ?_; clear hK K)
    refine hT 8 ?_; refine hT 9 ?_; refine hT 10 ?_
    refine hC 11 fun K hK => ?_; go_simp
    (refine hKp hK fun hHeld => ?_; clear hK K)
    refine hC 12 fun K hK => ?_; go_simp
    (refine hKp hK fun hHeld => ?_; clear hK K)
    refine hT 13 ?_
    refine hD ?_
    have hoW := ho.below hHeld.1
    have hgW := grown_trans hgr (grown_of_below hHeld.1 (some g))
    obtain ⟨r3, r4, r5, r6⟩ := hRg _ hHeld
    have hfz := own_free hoW
    clear hRg hR hE
    rcases ajoin_two hyb hb with ⟨hj, hle, hok⟩ | ⟨hj, hgt⟩
    ·obtain ⟨rfl, rfl⟩ : jv = aboth y.b b ∧ je = 0 := by have h := HJ.out; rw [hj] at h; exact Prod.mk.injEq .. |>.mp h
     go_wp2_with fail
     go_region
     all_goals
      obtain ⟨o1, g1⟩ := own_side2 hoW (i := i) (x := y) (by simp [hil]) (aboth y.b b)
      go_wp2
      go_roundw
      case rel => exact ⟨2, mrg x a b, rfl, by rw [List.set_set] at o1; rw [HM.out] at o1; exact own_drew o1, grown_trans hgW (grown_trans g1 (grown_of_below (below_drew (Below.refl _ _)) _)), .inr (.inr ⟨rfl, rfl, HF.out hle⟩)⟩
      case measure => simp [intOf]
    ·obtain ⟨rfl, rfl⟩ : jv = ⟨0, 0, 0, 0⟩ ∧ je = 4 := by have h := HJ.out; rw [hj] at h; exact Prod.mk.injEq .. |>.mp h
     go_wp2
     go_ret
     exact ⟨4, y, rfl, hoW, hgW, .inr ⟨rfl, HNF.out hgt⟩⟩
   ·(intro oi hoi; simp only [List.getElem?_toArray, List.getElem?_cons_succ, List.getElem?_cons_zero] at hoi; obtain rfl := Option.some.inj hoi; clear hoi); intro K hK
    go_simp
    (refine hKp hK fun hHeld => ?_; clear hK K)
    refine hC 7 fun K hK => ?_; go_simp
    go_at_call 37
    refine (HO.out _).mono ?_
    rintro r w1 ⟨rfl, hb1⟩
    have hEhb1 := Env.step hb1 (by assumption); (try (have hqhb1 := kq hb1; (repeat rw [World.size_drew] at hqhb1); (repeat rw [World.size_alloc] at hqhb1); have hrhb1 := hqhb1; (repeat unfold Loc at hrhb1)))
    (refine hKp hK fun hHeld => ?_; clear hK K)
    refine hT 8 ?_; refine hT 9 ?_; refine hT 10 ?_
    refine hC 12 fun K hK => ?_; go_simp
    (refine hKp hK fun hHeld => ?_; clear hK K)
    refine hT 13 ?_
    refine hD ?_
    have hoW := ho.below hHeld.1
    have hgW := grown_trans hgr (grown_of_below hHeld.1 (some g))
    obtain ⟨r3, r4, r5, r6⟩ := hRg _ hHeld
    have hfz := own_free hoW
    clear hRg hR hE
    rcases ajoin_two hyb hb with ⟨hj, hle, hok⟩ | ⟨hj, hgt⟩
    ·obtain ⟨rfl, rfl⟩ : jv = aboth y.b b ∧ je = 0 := by have h := HJ.out; rw [hj] at h; exact Prod.mk.injEq .. |>.mp h
     go_wp2_with fail
     go_region
     all_goals
      obtain ⟨o1, g1⟩ := own_side2 hoW (i := i) (x := y) (by simp [hil]) (aboth y.b b)
      go_wp2
      go_roundw
      case rel => exact ⟨2, mrg x a b, rfl, by rw [List.set_set] at o1; rw [HM.out] at o1; exact own_drew o1, grown_trans hgW (grown_trans g1 (grown_of_below (below_drew (Below.refl _ _)) _)), .inr (.inr ⟨rfl, rfl, HF.out hle⟩)⟩
      case measure => simp [intOf]
    ·obtain ⟨rfl, rfl⟩ : jv = ⟨0, 0, 0, 0⟩ ∧ je = 4 := by have h := HJ.out; rw [hj] at h; exact Prod.mk.injEq .. |>.mp h
     go_wp2
     go_ret
     exact ⟨4, y, rfl, hoW, hgW, .inr ⟨rfl, HNF.out hgt⟩⟩
  ·have HY := Lib.hid hy
   clear hy
   go_wp2
   go_ret
   exact ⟨0, mrg x a b, rfl, HY.out ▸ ho, hgr, .inl ⟨rfl, rfl, hfit⟩⟩
/-- copy of elements of whatever size, at whatever place. -/
theorem run_copy_k {P : Program} (w : World) (dT sT ty elem : TypeId) (b o dLen dCap : Nat) (a : Addr) (sLen sCap : Nat) (cs : List Value) (size : Nat)
  (hu : P.underlying dT = some (.slice elem)) (hs : (P.info? elem).map (·.size) = some size) (hn : cs.length = Nat.min sLen dLen * size)
  (hsrc : ∀ j v, cs[j]? = some v → w.cell? (a.add j) = some v) (hc : ∀ j, j < cs.length → (w.cell? ⟨b, o + j, none⟩).isSome = true) (hf : ∀ j, j < cs.length → w.frozen? ⟨b, o + j, none⟩ = false) (h1 : ∀ v ∈ cs, v.oneCell' = true) :
  (Builtin.copy_ #[dT, sT] ty #[.slice (some ⟨b, o, none⟩) dLen dCap, .slice (some a) sLen sCap]).run P w = .ok (goInt (Nat.min sLen dLen : Nat)) (w.setCells b o cs) := by
 have hl := run_loadCells_list (P := P) w a cs hsrc
 have hst := run_storeCells_cells (P := P) b o cs 0 w (by simpa using hc) (by simpa using hf) h1
 cases hq : P.info? elem with
 | none => simp [hq] at hs
 | some i =>
  have hi : i.size = size := by simpa [hq] using hs
  rw [hn] at hl
  simp [Builtin.copy_, run_underlying hu, Builtin.lenOf, Builtin.firstCells, sizeOf, typeInfo, hq, hi, hl, hst]
theorem putL_eq : ∀ (us xs : List Value) (o j : Nat), o + j + us.length ≤ xs.length → putL xs o j us = xs.take (o + j) ++ us ++ xs.drop (o + j + us.length)
 | [], xs, o, j, _ => by unfold putL; simp
 | u :: us, xs, o, j, h => by
  simp only [List.length_cons] at h
  unfold putL
  rw [putL_eq us (xs.set (o + j) u) o (j + 1) (by simp; omega)]
  have h1 : (xs.set (o + j) u).take (o + (j + 1)) = xs.take (o + j) ++ [u] := by
   apply List.ext_getElem?
   intro m
   rw [List.getElem?_take, List.getElem?_append]
   simp only [List.length_take, List.getElem?_set]
   by_cases hm : m < o + j
   ·simp [show m < o + (j + 1) by omega, show ¬ o + j = m by omega, show m < min (o + j) xs.length by omega]
   ·by_cases hm2 : m = o + j
    ·subst hm2
     simp [show o + j < o + (j + 1) by omega, show ¬ o + j < min (o + j) xs.length by omega, show o + j < xs.length by omega, show o + j - min (o + j) xs.length = 0 by omega]
    ·simp only [show ¬ m < o + (j + 1) by omega, if_false, show ¬ m < min (o + j) xs.length by omega]
     rw [List.getElem?_eq_none (by simp; omega)]
  have h2 : (xs.set (o + j) u).drop (o + (j + 1) + us.length) = xs.drop (o + j + (us.length + 1)) := by
   rw [List.drop_set_of_lt (by omega)]
   congr 1
   omega
  rw [h1, h2]
  simp
theorem setCells_putW (g : Nat) : ∀ (us : List Value) (o j : Nat) (w : World), w.setCells g (o + j) us = putW w g o j us
 | [], _, _, _ => rfl
 | u :: us, o, j, w => by
  unfold putW World.setCells
  exact setCells_putW g us o (j + 1) _
/-- Some cells of a row stored. -/
theorem row_cells {sz base : Nat} {e : TypeId} {g n cap : Nat} {w : World} {xs : List Value} (h : w.ownsRow base e sz (.slice (some ⟨g, 0, none⟩) n cap) n xs) (o : Nat) (us : List Value) (ho : o + us.length ≤ xs.length) :
  (w.setCells g o us).ownsRow base e sz (.slice (some ⟨g, 0, none⟩) n cap) n (xs.take o ++ us ++ xs.drop (o + us.length)) ∧ w.grownBy (w.setCells g o us) (some g) := by
 have h1 := row_put o us xs 0 w h
 rw [← setCells_putW, putL_eq us xs o 0 (by omega)] at h1
 simpa using h1
/-- A row with room, one longer. -/
theorem row_room {sz base : Nat} {e : TypeId} {g n cap : Nat} {w : World} {xs : List Value} (h : w.ownsRow base e sz (.slice (some ⟨g, 0, none⟩) n cap) n xs) (hr : n + 1 ≤ cap) :
  ∃ js : List Value, js.length = sz ∧ w.ownsRow base e sz (.slice (some ⟨g, 0, none⟩) (n + 1) cap) (n + 1) (xs ++ js) := by
 obtain ⟨hl, h2⟩ := h
 rcases h2 with ⟨h', _⟩ | ⟨g', cap', cur, h', hb, hg, hnc, hcm, hcs, htake⟩
 ·cases h'
 ·simp only [Value.slice.injEq, Option.some.injEq, Addr.mk.injEq, and_true] at h'
  obtain ⟨rfl, -, rfl⟩ := h'
  have hle := Nat.mul_le_mul_right sz hr
  rw [Nat.add_mul, Nat.one_mul] at hle
  have hcl : cur.toList.length = cap * sz := by simpa using hcs
  have e1 : cur.toList.take ((n + 1) * sz) = xs ++ (cur.toList.drop (n * sz)).take sz := by
   rw [Nat.add_mul, Nat.one_mul, List.take_add, htake]
  refine ⟨(cur.toList.drop (n * sz)).take sz, by simp; omega, ?_, .inr ⟨g, cap, cur, rfl, hb, hg, hr, hcm, hcs, e1⟩⟩
  rw [← e1]
  simp
  rw [Nat.add_mul]
  omega
/-- A new row. -/
theorem row_new {sz base : Nat} {e : TypeId} (w : World) (cur : Array Value) (n cap : Nat) (hb : base ≤ w.heap.size) (hnc : n ≤ cap) (hcm : cap ≤ maxLen) (hcs : cur.size = cap * sz) :
  (w.alloc (.cells cur e)).ownsRow base e sz (.slice (some ⟨w.heap.size, 0, none⟩) n cap) n (cur.toList.take (n * sz)) := by
 have hle := Nat.mul_le_mul_right sz hnc
 refine ⟨by rw [List.length_take, Array.length_toList, hcs]; omega, .inr ⟨w.heap.size, cap, cur, rfl, hb, ?_, hnc, hcm, hcs, rfl⟩⟩
 show (w.heap.push _)[w.heap.size]? = _
 simp
theorem row_cell {sz base : Nat} {e : TypeId} {g n cap : Nat} {w : World} {xs : List Value} (h : w.ownsRow base e sz (.slice (some ⟨g, 0, none⟩) n cap) n xs) (j : Nat) (hj : j < xs.length) : (w.cell? ⟨g, j, none⟩).isSome = true := by
 have := World.ownsRow.cells h (g := g) rfl j xs[j] (List.getElem?_eq_getElem hj)
 rw [show (⟨g, 0, none⟩ : Addr).add j = ⟨g, j, none⟩ by unfold Addr.add; split <;> simp_all] at this
 rw [this]
 rfl
theorem flat_take {α : Type} {enc : α → List Value} {sz : Nat} (henc : ∀ x, (enc x).length = sz) (l : List α) (i : Nat) (hi : i ≤ l.length) : (l.flatMap enc).take (i * sz) = (l.take i).flatMap enc ∧ (l.flatMap enc).drop (i * sz) = (l.drop i).flatMap enc := by
 have e : l.flatMap enc = (l.take i).flatMap enc ++ (l.drop i).flatMap enc := by rw [← List.flatMap_append, List.take_append_drop]
 have hl : ((l.take i).flatMap enc).length = i * sz := by rw [flat_length henc, List.length_take, Nat.min_eq_left hi]
 exact ⟨by rw [e, List.take_left' hl], by rw [e, List.drop_left' hl]⟩
/-- An element put in between. -/
theorem ins_cells {α : Type} {enc : α → List Value} {sz : Nat} (henc : ∀ x, (enc x).length = sz) (l : List α) (x : α) (i : Nat) (hi : i ≤ l.length) (js : List Value) (hjs : js.length = sz) :
  ∀ ys, ys = (l.flatMap enc ++ js).take ((i + 1) * sz) ++ (l.drop i).flatMap enc ++ (l.flatMap enc ++ js).drop ((i + 1) * sz + ((l.drop i).flatMap enc).length) →
   ys.length = (l.length + 1) * sz ∧ ys.take (i * sz) ++ enc x ++ ys.drop (i * sz + (enc x).length) = (l.take i ++ x :: l.drop i).flatMap enc := by
 intro ys hys
 have hL := flat_length henc l
 have hD : ((l.drop i).flatMap enc).length = (l.length - i) * sz := by rw [flat_length henc, List.length_drop]
 have e0 : (i + 1) * sz = i * sz + sz := by rw [Nat.add_mul, Nat.one_mul]
 have e1 : l.length * sz = i * sz + (l.length - i) * sz := by rw [← Nat.add_mul]; congr 1; omega
 have e2 : (l.length + 1) * sz = l.length * sz + sz := by rw [Nat.add_mul, Nat.one_mul]
 have hlen : (l.flatMap enc ++ js).length = (l.length + 1) * sz := by simp only [List.length_append, hL, hjs]; omega
 have hz : (l.flatMap enc ++ js).drop ((i + 1) * sz + ((l.drop i).flatMap enc).length) = [] := List.drop_eq_nil_of_le (by rw [hlen, hD]; omega)
 rw [hz, List.append_nil] at hys
 have ht : ((l.flatMap enc ++ js).take ((i + 1) * sz)).length = (i + 1) * sz := by rw [List.length_take, hlen]; omega
 refine ⟨by rw [hys, List.length_append, ht, hD]; omega, ?_⟩
 have t1 : ys.take (i * sz) = (l.take i).flatMap enc := by
  rw [hys, List.take_append_of_le_length (by rw [ht]; omega), List.take_take, Nat.min_eq_left (by omega), List.take_append_of_le_length (by rw [hL]; omega)]
  exact (flat_take henc l i hi).1
 have t2 : ys.drop (i * sz + (enc x).length) = (l.drop i).flatMap enc := by
  rw [henc, ← e0, hys, List.drop_left' ht]
 rw [t1, t2]
 simp
theorem encmp_lt (a b : En) : decide (encmp a b < 0) = enlt a b := by
 unfold enlt encmp
 rw [Bool.eq_iff_iff]
 simp only [decide_eq_true_eq]
 unfold orL orL orL orL cmpI
 grind
def keq (a b : En) : Bool := decide (a.k = b.k ∧ a.s = b.s ∧ a.e = b.e)
theorem encmp_eq (a b : En) : (encmp a b == 0) = keq a b := by
 unfold keq encmp
 rw [Bool.eq_iff_iff]
 simp only [beq_iff_eq, decide_eq_true_eq]
 unfold orL orL orL orL cmpI
 grind
/-- Whether an entry of the same key and window is there. -/
def fndE (l : List En) (x : En) : Bool := match l[plE l x]? with
 | some y => keq y x
 | none => false
theorem mid_facts {i j : Nat} (h : i < j) : ∃ m : Nat, ((i : Int) + (j : Int)) / 2 = (m : Int) ∧ i ≤ m ∧ m < j := ⟨(i + j) / 2, by omega, by omega, by omega⟩
/-- Where the search has come to. -/
theorem ss_below {l : List En} (h : SS l) {k : Nat} {x y : En} (hy : l[k]? = some y) (hlt : enlt y x = true) : ∀ m z, m < k + 1 → l[m]? = some z → enlt z x = true := fun m z hm hz => by
 rcases Nat.lt_succ_iff_lt_or_eq.1 hm with h' | rfl
 ·exact enlt_tr (ss_get h h' hz hy) hlt
 ·rw [hy] at hz; obtain rfl := Option.some.inj hz; exact hlt
theorem ss_above {l : List En} (h : SS l) {k : Nat} {x y : En} (hy : l[k]? = some y) (hge : enlt y x = false) : ∀ m z, k ≤ m → l[m]? = some z → enlt z x = false := fun m z hm hz => by
 rcases Nat.lt_or_eq_of_le hm with h' | rfl
 ·cases hc : enlt z x with
  | false => rfl
  | true => rw [enlt_tr (ss_get h h' hy hz) hc] at hge; cases hge
 ·rw [hy] at hz; obtain rfl := Option.some.inj hz; exact hge
theorem found_at {l : List En} {x : En} {i : Nat} (h0 : i ≤ l.length) (h1 : ∀ m y, m < i → l[m]? = some y → enlt y x = true) (h2 : ∀ m y, i ≤ m → l[m]? = some y → enlt y x = false) : plE l x = i := (plE_at h0 h1 (fun y hy => h2 i y (Nat.le_refl _) hy)).1
def SearchP (l : List En) (x : En) (w : World) (r : Ending) (w' : World) : Prop := r = .returned (.tuple #[.int .i64 (plE l x : Nat), .bool (fndE l x)]) ∧ Below w.heap.size w w'
set_option maxHeartbeats 4000000 in
set_option maxRecDepth 100000 in
theorem search_any (A : Option Addr) (c n : Nat) (l : List En) (x : En) (w : World) (hn : l.length = n) (hb0 : n ≤ 1099511627776) (hs : SS l) (hr : Rd enenc 11 w w.heap.size A l) :
  Calls Tryz.prog 95 #[.slice A n c, .agg #[.int .i64 x.k, .int .i64 x.s, .int .i64 x.e, .int .i64 x.c1, .int .i64 x.s1, .int .i64 x.m1, .int .i64 x.x1, .int .i64 x.c2, .int .i64 x.s2, .int .i64 x.m2, .int .i64 x.x2], .func (.func 88) #[] #[]] w (SearchP l x w) := by
 have HN := Lib.hid hn; have HS := Lib.hid hs
 clear hn hs
 go_enter Tryz.func95, Tryz.ntmps95
 go_wp2_with fail
 go_loopw [9, 10] (fun s t wr => ∃ i j : Nat, s = .int .i64 i ∧ t = .int .i64 j ∧ i ≤ j ∧ j ≤ n ∧ (∀ m y, m < i → l[m]? = some y → enlt y x = true) ∧ (∀ m y, j ≤ m → l[m]? = some y → enlt y x = false) ∧ Loc wr [(w.heap.size, [.int .i64 x.k, .int .i64 x.s, .int .i64 x.e, .int .i64 x.c1, .int .i64 x.s1, .int .i64 x.m1, .int .i64 x.x1, .int .i64 x.c2, .int .i64 x.s2, .int .i64 x.m2, .int .i64 x.x2])] ∧ Below w.heap.size w wr) (fun s t _ => (intOf t).toNat - (intOf s).toNat)
 case atStart => exact ⟨0, n, rfl, rfl, Nat.zero_le _, Nat.le_refl _, fun m y h => absurd h (by omega), fun m y h hy => by have := (List.getElem?_eq_some_iff.1 hy).1; rw [HN.out] at this; omega, (Loc.nil w).new _ 62, below_new (Below.refl _ _) _⟩
 case round =>
  obtain ⟨i, j, rfl, rfl, hij, hjn, h1, h2, hloc, hb⟩ := hrel
  have H1 := Lib.hid h1; have H2 := Lib.hid h2
  clear h1 h2
  by_cases hlt : i < j
  ·have d1 : decide ((i : Int) < (j : Int)) = true := by simp; omega
   have d1' : decide (i < j) = true := by simp [hlt]
   obtain ⟨m, hm, him, hmj⟩ := mid_facts hlt
   obtain ⟨y, hy⟩ : ∃ y, l[m]? = some y := ⟨_, List.getElem?_eq_getElem (by rw [HN.out]; omega)⟩
   obtain ⟨b, off, rfl, hbb, f0, f1, f2, f3, f4, f5, f6, f7, f8, f9, f10⟩ := en_cells (rd_grown hr hb) hy
   have k1 : (0 : Int) ≤ (m : Int) := by omega
   have k2 : (m : Int) < (n : Int) := by omega
   obtain ⟨Z, hZ⟩ : ∃ Z, Z = encmp y x := ⟨_, rfl⟩
   have ho := fun W => order17_any y x W
   rw [← hZ] at ho
   have HO := Lib.hid ho
   obtain ⟨D, hD⟩ : ∃ D, D = enlt y x := ⟨_, rfl⟩
   have hlt0 : decide (Z < 0) = D := by rw [hZ, hD]; exact encmp_lt y x
   have HD := Lib.hid hD; have HY := Lib.hid hy
   obtain ⟨lE, hE, hR⟩ := Env.abs (w0 := wr) (Below.refl _ _) hloc
   (repeat unfold Loc at hR)
   have hRy : ∀ X, Env wr lE X → X.cell? ⟨b, off + m * 11, none⟩ = some (.int .i64 y.k) ∧ X.cell? ⟨b, off + m * 11 + 1, none⟩ = some (.int .i64 y.s) ∧ X.cell? ⟨b, off + m * 11 + 2, none⟩ = some (.int .i64 y.e) ∧ X.cell? ⟨b, off + m * 11 + 3, none⟩ = some (.int .i64 y.c1) ∧ X.cell? ⟨b, off + m * 11 + 4, none⟩ = some (.int .i64 y.s1) ∧ X.cell? ⟨b, off + m * 11 + 5, none⟩ = some (.int .i64 y.m1) ∧ X.cell? ⟨b, off + m * 11 + 6, none⟩ = some (.int .i64 y.x1) ∧ X.cell? ⟨b, off + m * 11 + 7, none⟩ = some (.int .i64 y.c2) ∧ X.cell? ⟨b, off + m * 11 + 8, none⟩ = some (.int .i64 y.s2) ∧ X.cell? ⟨b, off + m * 11 + 9, none⟩ = some (.int .i64 y.m2) ∧ X.cell? ⟨b, off + m * 11 + 10, none⟩ = some (.int .i64 y.x2) := fun X hX => ⟨(hX.1.cell (p := ⟨b, off + m * 11, none⟩) hbb).trans f0, (hX.1.cell (p := ⟨b, off + m * 11 + 1, none⟩) hbb).trans f1, (hX.1.cell (p := ⟨b, off + m * 11 + 2, none⟩) hbb).trans f2, (hX.1.cell (p := ⟨b, off + m * 11 + 3, none⟩) hbb).trans f3, (hX.1.cell (p := ⟨b, off + m * 11 + 4, none⟩) hbb).trans f4, (hX.1.cell (p := ⟨b, off + m * 11 + 5, none⟩) hbb).trans f5, (hX.1.cell (p := ⟨b, off + m * 11 + 6, none⟩) hbb).trans f6, (hX.1.cell (p := ⟨b, off + m * 11 + 7, none⟩) hbb).trans f7, (hX.1.cell (p := ⟨b, off + m * 11 + 8, none⟩) hbb).trans f8, (hX.1.cell (p := ⟨b, off + m * 11 + 9, none⟩) hbb).trans f9, (hX.1.cell (p := ⟨b, off + m * 11 + 10, none⟩) hbb).trans f10⟩
   clear ho hZ hD hy hlt
   go_wp2_with fail
   cases D with
   | false =>
    refine hB (Env wr lE) fun hHeld => ?_
    refine hT 0 ?_; refine hT 1 ?_; refine hT 2 ?_; refine hT 3 ?_; refine hT 4 ?_; refine hT 5 ?_
    refine hC 6 fun K hK => ?_; go_simp
    go_at_call 88
    refine (HO.out _).mono ?_
    rintro r w3 ⟨rfl, hb3⟩
    have hEhb3 := Env.step hb3 (by assumption); (try (have hqhb3 := kq hb3; (repeat rw [World.size_drew] at hqhb3); (repeat rw [World.size_alloc] at hqhb3); have hrhb3 := hqhb3; (repeat unfold Loc at hrhb3)))
    (refine hKp hK fun hHeld => ?_; clear hK K)
    refine hT 7 ?_
    refine hD ?_
    have hbX := hHeld.1
    clear hR hE hRy hm
    go_wp2
    go_roundw
    case rel => exact ⟨i, m, rfl, rfl, him, by omega, H1.out, ss_above HS.out HY.out HD.out.symm, hloc.below hbX, below_then hb hbX⟩
    case measure => simp [intOf]; omega
   | true =>
    have e1 : IntKind.i64.wrap ((m : Int) + 1) = (m : Int) + 1 := IntWalk.i64_in _ (by omega)
    refine hB (Env wr lE) fun hHeld => ?_
    refine hT 0 ?_; refine hT 1 ?_; refine hT 2 ?_; refine hT 3 ?_; refine hT 4 ?_; refine hT 5 ?_
    refine hC 6 fun K hK => ?_; go_simp
    go_at_call 88
    refine (HO.out _).mono ?_
    rintro r w3 ⟨rfl, hb3⟩
    have hEhb3 := Env.step hb3 (by assumption); (try (have hqhb3 := kq hb3; (repeat rw [World.size_drew] at hqhb3); (repeat rw [World.size_alloc] at hqhb3); have hrhb3 := hqhb3; (repeat unfold Loc at hrhb3)))
    (refine hKp hK fun hHeld => ?_; clear hK K)
    refine hT 7 ?_
    refine hD ?_
    have hbX := hHeld.1
    clear hR hE hRy hm
    go_wp2
    go_roundw
    case rel => exact ⟨m + 1, j, by go_num, rfl, by omega, hjn, ss_below HS.out HY.out HD.out.symm, H2.out, hloc.below hbX, below_then hb hbX⟩
    case measure => simp [intOf]; omega
  ·obtain rfl : i = j := by omega
   have hp := found_at (l := l) (x := x) (i := i) (by rw [HN.out]; exact hjn) H1.out H2.out
   have HP := Lib.hid hp
   clear hp hlt
   have d0 : decide ((i : Int) < (i : Int)) = false := by simp
   have d0' : decide (i < i) = false := by simp
   by_cases hin : i < n
   ·obtain ⟨y, hy⟩ : ∃ y, l[i]? = some y := ⟨_, List.getElem?_eq_getElem (by rw [HN.out]; omega)⟩
    obtain ⟨b, off, rfl, hbb, f0, f1, f2, f3, f4, f5, f6, f7, f8, f9, f10⟩ := en_cells (rd_grown hr hb) hy
    have d1 : decide ((i : Int) < (n : Int)) = true := by simp; omega
    have d1' : decide (i < n) = true := by simp [hin]
    have k1 : (0 : Int) ≤ (i : Int) := by omega
    have k2 : (i : Int) < (n : Int) := by omega
    obtain ⟨Z, hZ⟩ : ∃ Z, Z = encmp y x := ⟨_, rfl⟩
    have ho := fun W => order17_any y x W
    rw [← hZ] at ho
    have HO := Lib.hid ho
    obtain ⟨D, hD⟩ : ∃ D, D = keq y x := ⟨_, rfl⟩
    have hlt0 : (Z == 0) = D := by rw [hZ, hD]; exact encmp_eq y x
    have hfd : fndE l x = D := by unfold fndE; rw [HP.out, hy, hD]
    have HFD := Lib.hid hfd
    obtain ⟨lE, hE, hR⟩ := Env.abs (w0 := wr) (Below.refl _ _) hloc
    (repeat unfold Loc at hR)
    have hRy : ∀ X, Env wr lE X → X.cell? ⟨b, off + i * 11, none⟩ = some (.int .i64 y.k) ∧ X.cell? ⟨b, off + i * 11 + 1, none⟩ = some (.int .i64 y.s) ∧ X.cell? ⟨b, off + i * 11 + 2, none⟩ = some (.int .i64 y.e) ∧ X.cell? ⟨b, off + i * 11 + 3, none⟩ = some (.int .i64 y.c1) ∧ X.cell? ⟨b, off + i * 11 + 4, none⟩ = some (.int .i64 y.s1) ∧ X.cell? ⟨b, off + i * 11 + 5, none⟩ = some (.int .i64 y.m1) ∧ X.cell? ⟨b, off + i * 11 + 6, none⟩ = some (.int .i64 y.x1) ∧ X.cell? ⟨b, off + i * 11 + 7, none⟩ = some (.int .i64 y.c2) ∧ X.cell? ⟨b, off + i * 11 + 8, none⟩ = some (.int .i64 y.s2) ∧ X.cell? ⟨b, off + i * 11 + 9, none⟩ = some (.int .i64 y.m2) ∧ X.cell? ⟨b, off + i * 11 + 10, none⟩ = some (.int .i64 y.x2) := fun X hX => ⟨(hX.1.cell (p := ⟨b, off + i * 11, none⟩) hbb).trans f0, (hX.1.cell (p := ⟨b, off + i * 11 + 1, none⟩) hbb).trans f1, (hX.1.cell (p := ⟨b, off + i * 11 + 2, none⟩) hbb).trans f2, (hX.1.cell (p := ⟨b, off + i * 11 + 3, none⟩) hbb).trans f3, (hX.1.cell (p := ⟨b, off + i * 11 + 4, none⟩) hbb).trans f4, (hX.1.cell (p := ⟨b, off + i * 11 + 5, none⟩) hbb).trans f5, (hX.1.cell (p := ⟨b, off + i * 11 + 6, none⟩) hbb).trans f6, (hX.1.cell (p := ⟨b, off + i * 11 + 7, none⟩) hbb).trans f7, (hX.1.cell (p := ⟨b, off + i * 11 + 8, none⟩) hbb).trans f8, (hX.1.cell (p := ⟨b, off + i * 11 + 9, none⟩) hbb).trans f9, (hX.1.cell (p := ⟨b, off + i * 11 + 10, none⟩) hbb).trans f10⟩
    clear ho hZ hD hy hin hfd
    go_wp2_with fail
    refine hB (Env wr lE) fun hHeld => ?_
    refine hT 0 ?_; refine hT 1 ?_; refine hT 2 ?_; refine hT 3 ?_; refine hT 4 ?_; refine hT 5 ?_; refine hT 6 ?_; refine hT 7 ?_; refine hT 8 ?_; refine hT 9 ?_; refine hT 10 ?_
    refine hC 11 fun K hK => ?_; go_simp
    go_at_call 88
    refine (HO.out _).mono ?_
    rintro r w3 ⟨rfl, hb3⟩
    have hEhb3 := Env.step hb3 (by assumption); (try (have hqhb3 := kq hb3; (repeat rw [World.size_drew] at hqhb3); (repeat rw [World.size_alloc] at hqhb3); have hrhb3 := hqhb3; (repeat unfold Loc at hrhb3)))
    (refine hKp hK fun hHeld => ?_; clear hK K)
    refine hT 12 ?_; refine hT 13 ?_; refine hT 14 ?_; refine hT 15 ?_
    refine hD ?_
    have hbX := hHeld.1
    clear hR hE hRy
    go_wp2
    go_ret2
    exact ⟨by rw [HP.out, HFD.out]; rfl, below_then hb hbX⟩
   ·obtain rfl : i = n := by omega
    have hfd : fndE l x = false := by unfold fndE; rw [HP.out, List.getElem?_eq_none (by rw [HN.out]; exact Nat.le_refl _)]
    have HFD := Lib.hid hfd
    obtain ⟨lE, hE, hR⟩ := Env.abs (w0 := wr) (Below.refl _ _) hloc
    (repeat unfold Loc at hR)
    clear hin hfd
    go_wp2_with fail
    refine hB (Env wr lE) fun hHeld => ?_
    refine hT 0 ?_; refine hT 1 ?_; refine hT 2 ?_; refine hT 3 ?_; refine hT 4 ?_
    refine hSk 5 ?_; refine hSk 6 ?_; refine hSk 7 ?_; refine hSk 8 ?_; refine hSk 9 ?_; refine hSk 10 ?_; refine hSk 11 ?_; refine hSk 12 ?_
    refine hT 13 ?_; refine hT 14 ?_; refine hT 15 ?_
    refine hD ?_
    have hbX := hHeld.1
    clear hR hE
    go_wp2
    go_ret2
    exact ⟨by rw [HP.out, HFD.out]; rfl, below_then hb hbX⟩
end Go.Proofs.YtnljihjhmgpcoaaGreat
