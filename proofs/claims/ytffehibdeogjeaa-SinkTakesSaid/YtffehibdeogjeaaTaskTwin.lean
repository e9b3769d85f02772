/- ref27.Twin (chapter 27): a task copied; printed by wip/gen_tasktwin.py. Condition: lists of at most 2^40. -/
import Derived.Test.YtffehibdeogjeaaTaskBox
import Derived.Test.YtffehibdeogjeaaTaskRef
namespace Go.Proofs.Ytffehibdeogjeaa
open Go.RowKit

set_option maxHeartbeats 32000000 in
set_option maxRecDepth 100000 in
theorem rtwin_any (kd n turn : Int) (ps : List Sd) (ms : List Int) (st : List En) (es : List Ev) (rs : List Rw) (ls : List Rc) (P M S E R L : Option Addr) (cp cm cs ce cr cl n1 n2 n3 n4 n5 n6 : Nat) (w : World)
    (h1 : ps.length = n1) (h2 : ms.length = n2) (h3 : st.length = n3) (h4 : es.length = n4) (h5 : rs.length = n5) (h6 : ls.length = n6)
    (b1 : n1 ≤ 1099511627776) (b2 : n2 ≤ 1099511627776) (b3 : n3 ≤ 1099511627776) (b4 : n4 ≤ 1099511627776) (b5 : n5 ≤ 1099511627776) (b6 : n6 ≤ 1099511627776)
    (z1 : P = none → cp = 0) (z2 : M = none → cm = 0) (z3 : S = none → cs = 0) (z4 : E = none → ce = 0) (z5 : R = none → cr = 0) (z6 : L = none → cl = 0)
    (r1 : Rd sdenc 11 w w.heap.size P ps) (r2 : Rd ienc 1 w w.heap.size M ms) (r3 : Rd enenc 11 w w.heap.size S st) (r4 : Rd evenc 5 w w.heap.size E es) (r5 : Rd wenc 5 w w.heap.size R rs) (r6 : Rd renc 3 w w.heap.size L ls) :
    Calls Try.prog 40 #[.agg #[.int .u8 kd, .int .i64 n, .int .i64 turn, .slice P n1 cp, .slice M n2 cm, .slice S n3 cs, .slice E n4 ce, .slice R n5 cr, .slice L n6 cl]] w (CloneP kd n turn ps ms st es rs ls n1 n2 n3 n4 n5 n6 w) := by
  obtain ⟨W0, hW0, hl0, hb0⟩ : ∃ W0, W0 = (w.alloc (.cells #[.int .u8 kd, .int .i64 n, .int .i64 turn, .slice P n1 cp, .slice M n2 cm, .slice S n3 cs, .slice E n4 ce, .slice R n5 cr, .slice L n6 cl] 67)).alloc (.cells #[.int .u8 0, .int .i64 0, .int .i64 0, .slice none 0 0, .slice none 0 0, .slice none 0 0, .slice none 0 0, .slice none 0 0, .slice none 0 0] 67) ∧ Loc W0 [(w.heap.size, [.int .u8 kd, .int .i64 n, .int .i64 turn, .slice P n1 cp, .slice M n2 cm, .slice S n3 cs, .slice E n4 ce, .slice R n5 cr, .slice L n6 cl]), (w.heap.size + 1, [.int .u8 0, .int .i64 0, .int .i64 0, .slice none 0 0, .slice none 0 0, .slice none 0 0, .slice none 0 0, .slice none 0 0, .slice none 0 0])] ∧ Below w.heap.size w W0 := by
    refine ⟨_, rfl, ?_, below_new (below_new (Below.refl _ _) _) _⟩
    have g := ((Loc.nil w).new [.int .u8 kd, .int .i64 n, .int .i64 turn, .slice P n1 cp, .slice M n2 cm, .slice S n3 cs, .slice E n4 ce, .slice R n5 cr, .slice L n6 cl] 67).new [.int .u8 0, .int .i64 0, .int .i64 0, .slice none 0 0, .slice none 0 0, .slice none 0 0, .slice none 0 0, .slice none 0 0, .slice none 0 0] 67
    rw [World.size_alloc] at g
    obtain ⟨a1, a2, a3, e1, e2, e3, -⟩ := g
    exact ⟨e1, e2, e3, a1, a2, a3, trivial⟩
  have hs0 : w.heap.size + 2 ≤ W0.heap.size := by rw [hW0, World.size_alloc, World.size_alloc]; exact Nat.le_refl _
  have HW0 := Lib.hid hW0
  have HN1 := Lib.hid h1; have HZ1 := Lib.hid z1; have HR1 := Lib.hid r1
  have HN2 := Lib.hid h2; have HZ2 := Lib.hid z2; have HR2 := Lib.hid r2
  have HN3 := Lib.hid h3; have HZ3 := Lib.hid z3; have HR3 := Lib.hid r3
  have HN4 := Lib.hid h4; have HZ4 := Lib.hid z4; have HR4 := Lib.hid r4
  have HN5 := Lib.hid h5; have HZ5 := Lib.hid z5; have HR5 := Lib.hid r5
  have HN6 := Lib.hid h6; have HZ6 := Lib.hid z6; have HR6 := Lib.hid r6
  clear hW0 h1 h2 h3 h4 h5 h6 z1 z2 z3 z4 z5 z6 r1 r2 r3 r4 r5 r6
  have hne : ∀ q ∈ ([(w.heap.size + 1, [.int .u8 0, .int .i64 0, .int .i64 0, .slice none 0 0, .slice none 0 0, .slice none 0 0, .slice none 0 0, .slice none 0 0, .slice none 0 0])] : List (Nat × List Value)), q.1 ≠ w.heap.size := by simp
  have HNE := Lib.hid hne
  clear hne
  go_enter Try.func40, Try.ntmps40
  go_upto_region 1 with (fail)
  rw [← HW0.out]
  have hF := hl0
  (repeat unfold Loc at hF)
  obtain ⟨i0, hi0, hz0, hz1, hz2⟩ := info_parts sdinfo34
  go_upto_region 2 with (at_builtin; refine wpList_append_copy rfl (.tmp 3) (.tmp 5) 60 rfl W0.heap.size 170 i0 (.agg #[.int .i64 0, .int .u8 0, .int .i64 0, .int .i64 0, .int .i64 0, .int .i64 0, .int .i64 0, .int .i64 0, .int .i64 0, .int .i64 0, .int .i64 0]) 11 88 Try.underlying60 hi0 hz0 hz1 hz2 rfl (by decide) sdenc sdenc_len W0.heap.size 0 ps rfl (own_empty (heap_alloc_new W0 (.cells #[] 170)) (Nat.le_refl _)) P n1 cp rfl HN1.out HZ1.out (rd_grown HR1.out (below_new hb0 _)) (sdenc_one ps) (by unfold maxLen; omega) (by omega) (by simp) ?_; intro g1 d1 x1 own1 hcap1 hg1 hc1; have hF1 := hl0.below ((below_new (Below.refl _ _) _).trans hc1); (repeat unfold Loc at hF1))
  have hX : Below W0.heap.size W0 x1 := (below_new (Below.refl _ _) _).trans hc1
  obtain ⟨W1, hW1, hl1, hb1, hs1, p1⟩ : ∃ Z, Z = x1.setCell ⟨w.heap.size, 3, none⟩ (.slice (some ⟨g1, 0, none⟩) n1 d1) ∧ Loc Z [(w.heap.size, [.int .u8 kd, .int .i64 n, .int .i64 turn, .slice (some ⟨g1, 0, none⟩) n1 d1, .slice M n2 cm, .slice S n3 cs, .slice E n4 ce, .slice R n5 cr, .slice L n6 cl]), (w.heap.size + 1, [.int .u8 0, .int .i64 0, .int .i64 0, .slice none 0 0, .slice none 0 0, .slice none 0 0, .slice none 0 0, .slice none 0 0, .slice none 0 0])] ∧ Below w.heap.size w Z ∧ w.heap.size + 2 ≤ Z.heap.size ∧ Own sdenc 11 Z (w.heap.size + 2) 170 (.slice (some ⟨g1, 0, none⟩) n1 d1) ps := by
    refine ⟨_, rfl, (hl0.below hX).put HNE.out 3 _ (by simp), below_put (below_then hb0 hX) (Nat.le_refl _) _, by rw [World.size_setCell]; exact Nat.le_trans hs0 hX.size, own_cell (own1.mono hs0) (by omega) _ _⟩
  have HW1 := Lib.hid hW1
  clear hW1 hF hF1 hX hc1 own1 hl0 hb0 hs0 
  have o1 := p1; clear p1
  rw [← HW1.out]
  have hF := hl1
  (repeat unfold Loc at hF)
  obtain ⟨i0, hi0, hz0, hz1, hz2⟩ := info_parts mkinfo34
  go_upto_region 3 with (at_builtin; refine wpList_append_copy rfl (.tmp 8) (.tmp 10) 61 rfl W1.heap.size 2 i0 (.int .i64 0) 1 8 Try.underlying61 hi0 hz0 hz1 hz2 rfl (by decide) ienc ienc_len34 W1.heap.size 0 ms rfl (own_empty (heap_alloc_new W1 (.cells #[] 2)) (Nat.le_refl _)) M n2 cm rfl HN2.out HZ2.out (rd_grown HR2.out (below_new hb1 _)) (ienc_one34 ms) (by unfold maxLen; omega) (by omega) (by simp) ?_; intro g2 d2 x2 own2 hcap2 hg2 hc2; have hF1 := hl1.below ((below_new (Below.refl _ _) _).trans hc2); (repeat unfold Loc at hF1))
  have hX : Below W1.heap.size W1 x2 := (below_new (Below.refl _ _) _).trans hc2
  obtain ⟨W2, hW2, hl2, hb2, hs2, p1, p2⟩ : ∃ Z, Z = x2.setCell ⟨w.heap.size, 4, none⟩ (.slice (some ⟨g2, 0, none⟩) n2 d2) ∧ Loc Z [(w.heap.size, [.int .u8 kd, .int .i64 n, .int .i64 turn, .slice (some ⟨g1, 0, none⟩) n1 d1, .slice (some ⟨g2, 0, none⟩) n2 d2, .slice S n3 cs, .slice E n4 ce, .slice R n5 cr, .slice L n6 cl]), (w.heap.size + 1, [.int .u8 0, .int .i64 0, .int .i64 0, .slice none 0 0, .slice none 0 0, .slice none 0 0, .slice none 0 0, .slice none 0 0, .slice none 0 0])] ∧ Below w.heap.size w Z ∧ w.heap.size + 2 ≤ Z.heap.size ∧ Own sdenc 11 Z (w.heap.size + 2) 170 (.slice (some ⟨g1, 0, none⟩) n1 d1) ps ∧ Own ienc 1 Z (w.heap.size + 2) 2 (.slice (some ⟨g2, 0, none⟩) n2 d2) ms := by
    refine ⟨_, rfl, (hl1.below hX).put HNE.out 4 _ (by simp), below_put (below_then hb1 hX) (Nat.le_refl _) _, by rw [World.size_setCell]; exact Nat.le_trans hs1 hX.size, own_cell (o1.below hX) (by omega) _ _, own_cell (own2.mono hs1) (by omega) _ _⟩
  have HW2 := Lib.hid hW2
  clear hW2 hF hF1 hX hc2 own2 hl1 hb1 hs1 o1
  have o1 := p1; clear p1
  have o2 := p2; clear p2
  rw [← HW2.out]
  have hF := hl2
  (repeat unfold Loc at hF)
  obtain ⟨i0, hi0, hz0, hz1, hz2⟩ := info_parts eninfo34
  go_upto_region 4 with (at_builtin; refine wpList_append_copy rfl (.tmp 13) (.tmp 15) 62 rfl W2.heap.size 131 i0 (.agg #[.int .i64 0, .int .i64 0, .int .i64 0, .int .i64 0, .int .i64 0, .int .i64 0, .int .i64 0, .int .i64 0, .int .i64 0, .int .i64 0, .int .i64 0]) 11 88 Try.underlying62 hi0 hz0 hz1 hz2 rfl (by decide) enenc enenc_len W2.heap.size 0 st rfl (own_empty (heap_alloc_new W2 (.cells #[] 131)) (Nat.le_refl _)) S n3 cs rfl HN3.out HZ3.out (rd_grown HR3.out (below_new hb2 _)) (enenc_one st) (by unfold maxLen; omega) (by omega) (by simp) ?_; intro g3 d3 x3 own3 hcap3 hg3 hc3; have hF1 := hl2.below ((below_new (Below.refl _ _) _).trans hc3); (repeat unfold Loc at hF1))
  have hX : Below W2.heap.size W2 x3 := (below_new (Below.refl _ _) _).trans hc3
  obtain ⟨W3, hW3, hl3, hb3, hs3, p1, p2, p3⟩ : ∃ Z, Z = x3.setCell ⟨w.heap.size, 5, none⟩ (.slice (some ⟨g3, 0, none⟩) n3 d3) ∧ Loc Z [(w.heap.size, [.int .u8 kd, .int .i64 n, .int .i64 turn, .slice (some ⟨g1, 0, none⟩) n1 d1, .slice (some ⟨g2, 0, none⟩) n2 d2, .slice (some ⟨g3, 0, none⟩) n3 d3, .slice E n4 ce, .slice R n5 cr, .slice L n6 cl]), (w.heap.size + 1, [.int .u8 0, .int .i64 0, .int .i64 0, .slice none 0 0, .slice none 0 0, .slice none 0 0, .slice none 0 0, .slice none 0 0, .slice none 0 0])] ∧ Below w.heap.size w Z ∧ w.heap.size + 2 ≤ Z.heap.size ∧ Own sdenc 11 Z (w.heap.size + 2) 170 (.slice (some ⟨g1, 0, none⟩) n1 d1) ps ∧ Own ienc 1 Z (w.heap.size + 2) 2 (.slice (some ⟨g2, 0, none⟩) n2 d2) ms ∧ Own enenc 11 Z (w.heap.size + 2) 131 (.slice (some ⟨g3, 0, none⟩) n3 d3) st := by
    refine ⟨_, rfl, (hl2.below hX).put HNE.out 5 _ (by simp), below_put (below_then hb2 hX) (Nat.le_refl _) _, by rw [World.size_setCell]; exact Nat.le_trans hs2 hX.size, own_cell (o1.below hX) (by omega) _ _, own_cell (o2.below hX) (by omega) _ _, own_cell (own3.mono hs2) (by omega) _ _⟩
  have HW3 := Lib.hid hW3
  clear hW3 hF hF1 hX hc3 own3 hl2 hb2 hs2 o1 o2
  have o1 := p1; clear p1
  have o2 := p2; clear p2
  have o3 := p3; clear p3
  rw [← HW3.out]
  have hF := hl3
  (repeat unfold Loc at hF)
  obtain ⟨i0, hi0, hz0, hz1, hz2⟩ := info_parts evinfo34
  go_upto_region 5 with (at_builtin; refine wpList_append_copy rfl (.tmp 18) (.tmp 20) 63 rfl W3.heap.size 140 i0 (.agg #[.bool false, .int .i64 0, .int .i64 0, .int .i64 0, .int .i64 0]) 5 40 Try.underlying63 hi0 hz0 hz1 hz2 rfl (by decide) evenc evenc_len W3.heap.size 0 es rfl (own_empty (heap_alloc_new W3 (.cells #[] 140)) (Nat.le_refl _)) E n4 ce rfl HN4.out HZ4.out (rd_grown HR4.out (below_new hb3 _)) (evenc_one es) (by unfold maxLen; omega) (by omega) (by simp) ?_; intro g4 d4 x4 own4 hcap4 hg4 hc4; have hF1 := hl3.below ((below_new (Below.refl _ _) _).trans hc4); (repeat unfold Loc at hF1))
  have hX : Below W3.heap.size W3 x4 := (below_new (Below.refl _ _) _).trans hc4
  obtain ⟨W4, hW4, hl4, hb4, hs4, p1, p2, p3, p4⟩ : ∃ Z, Z = x4.setCell ⟨w.heap.size, 6, none⟩ (.slice (some ⟨g4, 0, none⟩) n4 d4) ∧ Loc Z [(w.heap.size, [.int .u8 kd, .int .i64 n, .int .i64 turn, .slice (some ⟨g1, 0, none⟩) n1 d1, .slice (some ⟨g2, 0, none⟩) n2 d2, .slice (some ⟨g3, 0, none⟩) n3 d3, .slice (some ⟨g4, 0, none⟩) n4 d4, .slice R n5 cr, .slice L n6 cl]), (w.heap.size + 1, [.int .u8 0, .int .i64 0, .int .i64 0, .slice none 0 0, .slice none 0 0, .slice none 0 0, .slice none 0 0, .slice none 0 0, .slice none 0 0])] ∧ Below w.heap.size w Z ∧ w.heap.size + 2 ≤ Z.heap.size ∧ Own sdenc 11 Z (w.heap.size + 2) 170 (.slice (some ⟨g1, 0, none⟩) n1 d1) ps ∧ Own ienc 1 Z (w.heap.size + 2) 2 (.slice (some ⟨g2, 0, none⟩) n2 d2) ms ∧ Own enenc 11 Z (w.heap.size + 2) 131 (.slice (some ⟨g3, 0, none⟩) n3 d3) st ∧ Own evenc 5 Z (w.heap.size + 2) 140 (.slice (some ⟨g4, 0, none⟩) n4 d4) es := by
    refine ⟨_, rfl, (hl3.below hX).put HNE.out 6 _ (by simp), below_put (below_then hb3 hX) (Nat.le_refl _) _, by rw [World.size_setCell]; exact Nat.le_trans hs3 hX.size, own_cell (o1.below hX) (by omega) _ _, own_cell (o2.below hX) (by omega) _ _, own_cell (o3.below hX) (by omega) _ _, own_cell (own4.mono hs3) (by omega) _ _⟩
  have HW4 := Lib.hid hW4
  clear hW4 hF hF1 hX hc4 own4 hl3 hb3 hs3 o1 o2 o3
  have o1 := p1; clear p1
  have o2 := p2; clear p2
  have o3 := p3; clear p3
  have o4 := p4; clear p4
  rw [← HW4.out]
  have hF := hl4
  (repeat unfold Loc at hF)
  obtain ⟨i0, hi0, hz0, hz1, hz2⟩ := info_parts w_info
  go_upto_region 6 with (at_builtin; refine wpList_append_copy rfl (.tmp 23) (.tmp 25) 64 rfl W4.heap.size 72 i0 (.agg #[.int .i64 0, .int .i64 0, .int .i64 0, .int .i64 0, .int .i64 0]) 5 40 Try.underlying64 hi0 hz0 hz1 hz2 rfl (by decide) wenc wenc_len W4.heap.size 0 rs rfl (own_empty (heap_alloc_new W4 (.cells #[] 72)) (Nat.le_refl _)) R n5 cr rfl HN5.out HZ5.out (rd_grown HR5.out (below_new hb4 _)) (wenc_one rs) (by unfold maxLen; omega) (by omega) (by simp) ?_; intro g5 d5 x5 own5 hcap5 hg5 hc5; have hF1 := hl4.below ((below_new (Below.refl _ _) _).trans hc5); (repeat unfold Loc at hF1))
  have hX : Below W4.heap.size W4 x5 := (below_new (Below.refl _ _) _).trans hc5
  have ap5 := own_apart3 own5 o1
  obtain ⟨W5, hW5, hl5, hb5, hs5, p1, p2, p3, p4, p5⟩ : ∃ Z, Z = x5.setCell ⟨w.heap.size, 7, none⟩ (.slice (some ⟨g5, 0, none⟩) n5 d5) ∧ Loc Z [(w.heap.size, [.int .u8 kd, .int .i64 n, .int .i64 turn, .slice (some ⟨g1, 0, none⟩) n1 d1, .slice (some ⟨g2, 0, none⟩) n2 d2, .slice (some ⟨g3, 0, none⟩) n3 d3, .slice (some ⟨g4, 0, none⟩) n4 d4, .slice (some ⟨g5, 0, none⟩) n5 d5, .slice L n6 cl]), (w.heap.size + 1, [.int .u8 0, .int .i64 0, .int .i64 0, .slice none 0 0, .slice none 0 0, .slice none 0 0, .slice none 0 0, .slice none 0 0, .slice none 0 0])] ∧ Below w.heap.size w Z ∧ w.heap.size + 2 ≤ Z.heap.size ∧ Own sdenc 11 Z (w.heap.size + 2) 170 (.slice (some ⟨g1, 0, none⟩) n1 d1) ps ∧ Own ienc 1 Z (w.heap.size + 2) 2 (.slice (some ⟨g2, 0, none⟩) n2 d2) ms ∧ Own enenc 11 Z (w.heap.size + 2) 131 (.slice (some ⟨g3, 0, none⟩) n3 d3) st ∧ Own evenc 5 Z (w.heap.size + 2) 140 (.slice (some ⟨g4, 0, none⟩) n4 d4) es ∧ Own wenc 5 Z (w.heap.size + 2) 72 (.slice (some ⟨g5, 0, none⟩) n5 d5) rs := by
    refine ⟨_, rfl, (hl4.below hX).put HNE.out 7 _ (by simp), below_put (below_then hb4 hX) (Nat.le_refl _) _, by rw [World.size_setCell]; exact Nat.le_trans hs4 hX.size, own_cell (o1.below hX) (by omega) _ _, own_cell (o2.below hX) (by omega) _ _, own_cell (o3.below hX) (by omega) _ _, own_cell (o4.below hX) (by omega) _ _, own_cell (own5.mono hs4) (by omega) _ _⟩
  have HW5 := Lib.hid hW5
  clear hW5 hF hF1 hX hc5 own5 hl4 hb4 hs4 o1 o2 o3 o4
  have o1 := p1; clear p1
  have o2 := p2; clear p2
  have o3 := p3; clear p3
  have o4 := p4; clear p4
  have o5 := p5; clear p5
  rw [← HW5.out]
  have hF := hl5
  (repeat unfold Loc at hF)
  obtain ⟨i0, hi0, hz0, hz1, hz2⟩ := info_parts r_info
  go_upto_region 7 with (at_builtin; refine wpList_append_copy rfl (.tmp 28) (.tmp 30) 65 rfl W5.heap.size 69 i0 (.agg #[.int .i64 0, .int .i64 0, .int .i64 0]) 3 24 Try.underlying65 hi0 hz0 hz1 hz2 rfl (by decide) renc renc_len W5.heap.size 0 ls rfl (own_empty (heap_alloc_new W5 (.cells #[] 69)) (Nat.le_refl _)) L n6 cl rfl HN6.out HZ6.out (rd_grown HR6.out (below_new hb5 _)) (renc_one ls) (by unfold maxLen; omega) (by omega) (by simp) ?_; intro g6 d6 x6 own6 hcap6 hg6 hc6; have hF1 := hl5.below ((below_new (Below.refl _ _) _).trans hc6); (repeat unfold Loc at hF1))
  have hX : Below W5.heap.size W5 x6 := (below_new (Below.refl _ _) _).trans hc6
  have ap6 := own_apart3 own6 o1
  obtain ⟨W6, hW6, hl6, hb6, hs6, p1, p2, p3, p4, p5, p6⟩ : ∃ Z, Z = x6.setCell ⟨w.heap.size, 8, none⟩ (.slice (some ⟨g6, 0, none⟩) n6 d6) ∧ Loc Z [(w.heap.size, [.int .u8 kd, .int .i64 n, .int .i64 turn, .slice (some ⟨g1, 0, none⟩) n1 d1, .slice (some ⟨g2, 0, none⟩) n2 d2, .slice (some ⟨g3, 0, none⟩) n3 d3, .slice (some ⟨g4, 0, none⟩) n4 d4, .slice (some ⟨g5, 0, none⟩) n5 d5, .slice (some ⟨g6, 0, none⟩) n6 d6]), (w.heap.size + 1, [.int .u8 0, .int .i64 0, .int .i64 0, .slice none 0 0, .slice none 0 0, .slice none 0 0, .slice none 0 0, .slice none 0 0, .slice none 0 0])] ∧ Below w.heap.size w Z ∧ w.heap.size + 2 ≤ Z.heap.size ∧ Own sdenc 11 Z (w.heap.size + 2) 170 (.slice (some ⟨g1, 0, none⟩) n1 d1) ps ∧ Own ienc 1 Z (w.heap.size + 2) 2 (.slice (some ⟨g2, 0, none⟩) n2 d2) ms ∧ Own enenc 11 Z (w.heap.size + 2) 131 (.slice (some ⟨g3, 0, none⟩) n3 d3) st ∧ Own evenc 5 Z (w.heap.size + 2) 140 (.slice (some ⟨g4, 0, none⟩) n4 d4) es ∧ Own wenc 5 Z (w.heap.size + 2) 72 (.slice (some ⟨g5, 0, none⟩) n5 d5) rs ∧ Own renc 3 Z (w.heap.size + 2) 69 (.slice (some ⟨g6, 0, none⟩) n6 d6) ls := by
    refine ⟨_, rfl, (hl5.below hX).put HNE.out 8 _ (by simp), below_put (below_then hb5 hX) (Nat.le_refl _) _, by rw [World.size_setCell]; exact Nat.le_trans hs5 hX.size, own_cell (o1.below hX) (by omega) _ _, own_cell (o2.below hX) (by omega) _ _, own_cell (o3.below hX) (by omega) _ _, own_cell (o4.below hX) (by omega) _ _, own_cell (o5.below hX) (by omega) _ _, own_cell (own6.mono hs5) (by omega) _ _⟩
  have HW6 := Lib.hid hW6
  clear hW6 hF hF1 hX hc6 own6 hl5 hb5 hs5 o1 o2 o3 o4 o5
  have o1 := p1; clear p1
  have o2 := p2; clear p2
  have o3 := p3; clear p3
  have o4 := p4; clear p4
  have o5 := p5; clear p5
  have o6 := p6; clear p6
  rw [← HW6.out]
  have hF := hl6
  (repeat unfold Loc at hF)
  go_wp2_with fail
  refine bodyPost_ret (v := _) (by rw [results_cell1 Try.results40]; go_simp; rfl) rfl ?_
  have q1 := (hl6.2.2.2)
  exact ⟨(some ⟨g1, 0, none⟩), (some ⟨g2, 0, none⟩), (some ⟨g3, 0, none⟩), (some ⟨g4, 0, none⟩), (some ⟨g5, 0, none⟩), (some ⟨g6, 0, none⟩), d1, d2, d3, d4, d5, d6, rfl, ⟨⟨by refine Own.mono (base := w.heap.size + 2) ?_ (by omega); (repeat refine own_cell ?_ (by omega) _ _); exact o1, fun h => nomatch h⟩, ⟨by refine Own.mono (base := w.heap.size + 2) ?_ (by omega); (repeat refine own_cell ?_ (by omega) _ _); exact o2, fun h => nomatch h⟩, ⟨by refine Own.mono (base := w.heap.size + 2) ?_ (by omega); (repeat refine own_cell ?_ (by omega) _ _); exact o3, fun h => nomatch h⟩, ⟨by refine Own.mono (base := w.heap.size + 2) ?_ (by omega); (repeat refine own_cell ?_ (by omega) _ _); exact o4, fun h => nomatch h⟩, ⟨by refine Own.mono (base := w.heap.size + 2) ?_ (by omega); (repeat refine own_cell ?_ (by omega) _ _); exact o5, fun h => nomatch h⟩, ⟨by refine Own.mono (base := w.heap.size + 2) ?_ (by omega); (repeat refine own_cell ?_ (by omega) _ _); exact o6, fun h => nomatch h⟩, fun k hk => ⟨ap5 k hk, ap6 k hk⟩⟩, by (repeat refine below_put ?_ (by dsimp only; omega) _); exact hb6⟩
end Go.Proofs.Ytffehibdeogjeaa
