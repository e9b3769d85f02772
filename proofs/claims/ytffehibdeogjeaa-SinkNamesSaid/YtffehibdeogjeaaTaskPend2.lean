/- task.Pend with nothing more pending (chapter 27). Condition: a valid task. -/
import Derived.Test.YtffehibdeogjeaaTaskBox
namespace Go.Proofs.Ytffehibdeogjeaa
open Go.RowKit

theorem tkok_few {t : Tk} (h : tkok t = true) : t.ps.length ≤ 4000 := by
  unfold tkok at h
  simp only [Bool.and_eq_true, decide_eq_true_eq] at h
  obtain ⟨⟨⟨⟨⟨⟨⟨⟨⟨-, -, -, -, h1⟩, -⟩, -⟩, -⟩, -⟩, -⟩, -⟩, -⟩, -⟩ := h
  exact h1
def PendP (kd n turn : Int) (ps : List Sd) (ms : List Int) (st : List En) (es : List Ev) (rs : List Rw) (ls : List Rc) (n1 n2 n3 n4 n5 n6 : Nat) (w : World) (r : Ending) (w' : World) : Prop :=
  ∃ (P M S E R L : Option Addr) (cp cm cs ce cr cl : Nat), r = .returned (.tuple #[.agg #[.int .u8 kd, .int .i64 n, .int .i64 turn, .slice P n1 cp, .slice M n2 cm, .slice S n3 cs, .slice E n4 ce, .slice R n5 cr, .slice L n6 cl], .int .i64 0]) ∧ OwnT w' w.heap.size P M S E R L cp cm cs ce cr cl n1 n2 n3 n4 n5 n6 ps ms st es rs ls ∧ Below w.heap.size w w'
set_option maxHeartbeats 32000000 in
set_option maxRecDepth 100000 in
theorem tkpend_any (kd n turn : Int) (ps : List Sd) (ms : List Int) (st : List En) (es : List Ev) (rs : List Rw) (ls : List Rc) (P M S E R L : Option Addr) (cp cm cs ce cr cl n1 n2 n3 n4 n5 n6 : Nat) (w : World)
    (h1 : ps.length = n1) (h2 : ms.length = n2) (h3 : st.length = n3) (h4 : es.length = n4) (h5 : rs.length = n5) (h6 : ls.length = n6)
    (b1 : n1 ≤ 1099511627776) (b2 : n2 ≤ 1099511627776) (b3 : n3 ≤ 1099511627776) (b4 : n4 ≤ 1099511627776) (b5 : n5 ≤ 1099511627776) (b6 : n6 ≤ 1099511627776)
    (z1 : P = none → cp = 0) (z2 : M = none → cm = 0) (z3 : S = none → cs = 0) (z4 : E = none → ce = 0) (z5 : R = none → cr = 0) (z6 : L = none → cl = 0)
    (r1 : Rd sdenc 11 w w.heap.size P ps) (r2 : Rd ienc 1 w w.heap.size M ms) (r3 : Rd enenc 11 w w.heap.size S st) (r4 : Rd evenc 5 w w.heap.size E es) (r5 : Rd wenc 5 w w.heap.size R rs) (r6 : Rd renc 3 w w.heap.size L ls)
    (hok : tkok ⟨kd, n, turn, ps, ms, st, es, rs, ls⟩ = true) :
    Calls Try.prog 81 #[.agg #[.int .u8 kd, .int .i64 n, .int .i64 turn, .slice P n1 cp, .slice M n2 cm, .slice S n3 cs, .slice E n4 ce, .slice R n5 cr, .slice L n6 cl], .slice none 0 0] w (PendP kd n turn ps ms st es rs ls n1 n2 n3 n4 n5 n6 w) := by
  have hck : ∀ W, Below w.heap.size w W → Calls Try.prog 79 #[.agg #[.int .u8 kd, .int .i64 n, .int .i64 turn, .slice P n1 cp, .slice M n2 cm, .slice S n3 cs, .slice E n4 ce, .slice R n5 cr, .slice L n6 cl]] W fun e w' => e = .returned (.int .i64 0) ∧ Below W.heap.size W w' := fun W hb => by
    have := tkcheck_any kd n turn ps ms st es rs ls P M S E R L cp cm cs ce cr cl n1 n2 n3 n4 n5 n6 W h1 h2 h3 h4 h5 h6 b1 b2 b3 b4 b5 b6 (rd_grown r1 hb) (rd_grown r2 hb) (rd_grown r3 hb) (rd_grown r4 hb) (rd_grown r5 hb) (rd_grown r6 hb)
    rw [hok] at this
    exact this
  have hcl := fun W (hb : Below w.heap.size w W) => tkclone_any kd n turn ps ms st es rs ls P M S E R L cp cm cs ce cr cl n1 n2 n3 n4 n5 n6 W h1 h2 h3 h4 h5 h6 b1 b2 b3 b4 b5 b6 z1 z2 z3 z4 z5 z6 (rd_grown r1 hb) (rd_grown r2 hb) (rd_grown r3 hb) (rd_grown r4 hb) (rd_grown r5 hb) (rd_grown r6 hb)
  have hse : ∀ W, Calls Try.prog 108 #[.slice none 0 0] W fun e w' => e = .returned (.bool true) ∧ Below W.heap.size W w' := fun W => sends_any none 0 0 [] W rfl (by decide) Rd.nil
  have hn4 : n1 ≤ 4000 := by rw [← h1]; exact tkok_few hok
  have HCK := Lib.hid hck; have HCL := Lib.hid hcl; have HSE := Lib.hid hse
  clear hck hcl hse hok h1 h2 h3 h4 h5 h6 z1 z2 z3 z4 z5 z6
  obtain ⟨W2, hW2, hl, hb⟩ : ∃ W2, W2 = (w.alloc (.cells #[.int .u8 kd, .int .i64 n, .int .i64 turn, .slice P n1 cp, .slice M n2 cm, .slice S n3 cs, .slice E n4 ce, .slice R n5 cr, .slice L n6 cl] 67)).alloc (.cells #[.int .u8 0, .int .i64 0, .int .i64 0, .slice none 0 0, .slice none 0 0, .slice none 0 0, .slice none 0 0, .slice none 0 0, .slice none 0 0] 67) ∧ Loc W2 [(w.heap.size, [.int .u8 kd, .int .i64 n, .int .i64 turn, .slice P n1 cp, .slice M n2 cm, .slice S n3 cs, .slice E n4 ce, .slice R n5 cr, .slice L n6 cl]), (w.heap.size + 1, [.int .u8 0, .int .i64 0, .int .i64 0, .slice none 0 0, .slice none 0 0, .slice none 0 0, .slice none 0 0, .slice none 0 0, .slice none 0 0])] ∧ Below w.heap.size w W2 := by
    refine ⟨_, rfl, ?_, below_new (below_new (Below.refl _ _) _) _⟩
    have g := ((Loc.nil w).new [.int .u8 kd, .int .i64 n, .int .i64 turn, .slice P n1 cp, .slice M n2 cm, .slice S n3 cs, .slice E n4 ce, .slice R n5 cr, .slice L n6 cl] 67).new [.int .u8 0, .int .i64 0, .int .i64 0, .slice none 0 0, .slice none 0 0, .slice none 0 0, .slice none 0 0, .slice none 0 0, .slice none 0 0] 67
    rw [World.size_alloc] at g
    obtain ⟨a1, a2, a3, e1, e2, e3, -⟩ := g
    exact ⟨e1, e2, e3, a1, a2, a3, trivial⟩
  have hs2 : w.heap.size + 2 ≤ W2.heap.size := by rw [hW2, World.size_alloc, World.size_alloc]; exact Nat.le_refl _
  have HW2 := Lib.hid hW2
  clear hW2
  go_enter Try.func81, Try.ntmps81
  go_upto_region 1 with (fail)
  rw [← HW2.out]
  have hF := hl
  (repeat unfold Loc at hF)
  go_wp2_with fail
  go_at_call 79
  refine (HCK.out _ hb).mono ?_
  rintro r w3 ⟨rfl, hb3⟩
  have hl3 := hl.below hb3
  have hbb3 := below_then hb hb3
  clear hF
  have hF := hl3
  (repeat unfold Loc at hF)
  go_wp2_with fail
  go_at_call 108
  refine (HSE.out _).mono ?_
  rintro r w4 ⟨rfl, hb4⟩
  have hl4 := hl3.below hb4
  have hbb4 := below_then hbb3 hb4
  clear hF hl3 hbb3
  have hF := hl4
  (repeat unfold Loc at hF)
  have d1 : decide ((4000 : Int) - (n1 : Int) < 0) = false := by simp; omega
  have e1 : IntKind.i64.wrap ((4000 : Int) - (n1 : Int)) = (4000 : Int) - (n1 : Int) := IntWalk.i64_in _ (by omega)
  go_wp2_with fail
  go_at_call 114
  refine (HCL.out _ hbb4).mono ?_
  rintro r w5 ⟨P1, M2, S3, E4, R5, L6, g1, g2, g3, g4, g5, g6, rfl, own, hb5⟩
  have hs5 : w.heap.size + 2 ≤ w4.heap.size := Nat.le_trans hs2 (Nat.le_trans hb3.size hb4.size)
  have own5 := own.mono hs5
  have hl5 := hl4.below hb5
  have hbb5 := below_then hbb4 hb5
  clear hF hl4 hbb4
  have hF := hl5
  (repeat unfold Loc at hF)
  go_upto_region 9 with (fail)
  have hne : ∀ q ∈ ([(w.heap.size + 1, [.int .u8 0, .int .i64 0, .int .i64 0, .slice none 0 0, .slice none 0 0, .slice none 0 0, .slice none 0 0, .slice none 0 0, .slice none 0 0])] : List (Nat × List Value)), q.1 ≠ w.heap.size := by simp
  obtain ⟨Z, hZ, hlZ, hbZ, oZ⟩ : ∃ Z, Z = put9 w5 w.heap.size (.int .u8 kd) (.int .i64 n) (.int .i64 turn) (.slice P1 n1 g1) (.slice M2 n2 g2) (.slice S3 n3 g3) (.slice E4 n4 g4) (.slice R5 n5 g5) (.slice L6 n6 g6) ∧ Loc Z [(w.heap.size, [.int .u8 kd, .int .i64 n, .int .i64 turn, .slice P1 n1 g1, .slice M2 n2 g2, .slice S3 n3 g3, .slice E4 n4 g4, .slice R5 n5 g5, .slice L6 n6 g6]), (w.heap.size + 1, [.int .u8 0, .int .i64 0, .int .i64 0, .slice none 0 0, .slice none 0 0, .slice none 0 0, .slice none 0 0, .slice none 0 0, .slice none 0 0])] ∧ Below w.heap.size w Z ∧ OwnT Z (w.heap.size + 2) P1 M2 S3 E4 R5 L6 g1 g2 g3 g4 g5 g6 n1 n2 n3 n4 n5 n6 ps ms st es rs ls :=
    ⟨_, rfl, put9_loc hl5 hne _ _ _ _ _ _ _ _ _, put9_below hbb5 (Nat.le_refl _) _ _ _ _ _ _ _ _ _, own5.put9 (by omega) _ _ _ _ _ _ _ _ _⟩
  unfold put9 at hZ
  rw [← hZ]
  obtain ⟨i0, hi0, hz0, hz1, hz2⟩ := info_parts sdinfo34
  clear hZ hl5 hbb5 own5 own hF hne hb5 hs5 e1 d1
  have hF := hlZ
  (repeat unfold Loc at hF)
  go_wp2_with (at_builtin; refine wpList_append_own_none rfl (.tmp 28) (.tmp 29) 60 rfl (w.heap.size + 2) 170 i0 11 Try.underlying60 hi0 (.slice P1 n1 g1) _ _ rfl oZ.1.1 rfl ?_)
  refine bodyPost_ret (v := _) (by rw [results_cell_tmp Try.results81]; go_simp; rfl) rfl ?_
  exact ⟨P1, M2, S3, E4, R5, L6, g1, g2, g3, g4, g5, g6, rfl, ((oZ.cell (by omega) 3 _).put9 (b := w.heap.size + 1) (by omega) _ _ _ _ _ _ _ _ _).mono (by omega), put9_below (below_put hbZ (Nat.le_refl _) _) (by omega) _ _ _ _ _ _ _ _ _⟩
end Go.Proofs.Ytffehibdeogjeaa
