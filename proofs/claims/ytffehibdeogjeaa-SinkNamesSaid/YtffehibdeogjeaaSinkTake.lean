/- sink.Take (chapter 34), printed by wip/gen_sinktake.py. Condition: lists of at most 2^40. -/
import Derived.Test.YtffehibdeogjeaaTaskPend2
import Derived.Test.YtffehibdeogjeaaSinkTakeP
import Derived.Test.YtffehibdeogjeaaSinkRef
namespace Go.Proofs.Ytffehibdeogjeaa
open Go.RowKit

/-- A task as a result, with an error. -/
def TakeQ (t : Tk) (e : Int) (w : World) (r : Ending) (w' : World) : Prop := ∃ p : Pl, r = .returned (.tuple #[.agg (tkcells t p).toArray, .int .i64 e]) ∧ RdT w' p t ∧ NzT p ∧ Below w.heap.size w w' ∧ (∀ ad, p.R = some ad → w.heap.size ≤ ad.block) ∧ (∀ ad, p.L = some ad → w.heap.size ≤ ad.block)
def pl0 : Pl := ⟨none, 0, none, 0, none, 0, none, 0, none, 0, none, 0⟩
theorem take_zero {e : Int} {w w' : World} (hb : Below w.heap.size w w') : TakeQ tk0 e w (.returned (.tuple #[.agg #[.int .u8 0, .int .i64 0, .int .i64 0, .slice none 0 0, .slice none 0 0, .slice none 0 0, .slice none 0 0, .slice none 0 0, .slice none 0 0], .int .i64 e])) w' :=
  ⟨pl0, rfl, ⟨Rd.nil, Rd.nil, Rd.nil, Rd.nil, Rd.nil, Rd.nil⟩, ⟨fun _ => rfl, fun _ => rfl, fun _ => rfl, fun _ => rfl, fun _ => rfl, fun _ => rfl⟩, hb, fun _ h => (by cases h), fun _ h => (by cases h)⟩
theorem own_far {α : Type} {enc : α → List Value} {sz : Nat} {W : World} {B : Nat} {e : TypeId} {A : Option Addr} {n c : Nat} {l : List α} (h : Own enc sz W B e (.slice A n c) l) : ∀ ad, A = some ad → B ≤ ad.block := by
  obtain ⟨A2, c2, hv, -, -, hf⟩ := h.form
  injection hv with h1 _ _
  subst h1
  intro ad e2
  obtain ⟨g, rfl, hb, -⟩ := hf ad e2
  exact hb
theorem tkok_kept {t : Tk} (h : tkok t = true) : kept t = true := by
  unfold tkok at h
  simp only [Bool.and_eq_true, decide_eq_true_eq] at h
  obtain ⟨⟨⟨⟨⟨⟨⟨⟨-, h1⟩, -⟩, -⟩, -⟩, -⟩, -⟩, -⟩, -⟩ := h
  exact h1
theorem kept7 {t : Tk} (h : kept t = true) (hk : t.kd = 7) : t.ms = [] ∧ t.st = [] ∧ t.es = [] ∧ t.rs = [] ∧ t.ls.length ≤ 4000 := by
  unfold kept at h
  rw [if_neg (by omega), if_neg (by omega), if_neg (by omega), if_neg (by omega), if_neg (by omega), if_neg (by omega), if_pos hk] at h
  simpa using h
theorem kept6 {t : Tk} (h : kept t = true) (hk : t.kd = 6) : t.ms = [] ∧ t.st = [] ∧ t.es = [] ∧ t.ls = [] ∧ t.rs.length ≤ 4000 := by
  unfold kept at h
  rw [if_neg (by omega), if_neg (by omega), if_neg (by omega), if_neg (by omega), if_neg (by omega), if_pos hk] at h
  simp at h
  exact ⟨h.1, h.2.1, h.2.2.1, h.2.2.2.2, h.2.2.2.1⟩
theorem rd_emp {α : Type} {enc : α → List Value} {sz : Nat} {w : World} {B : Nat} {A : Option Addr} : Rd enc sz w B A ([] : List α) := fun h => absurd rfl h
theorem apart_ne {u v : Value} (h : ∀ k, u.ownBlock = some k → v.ownBlock ≠ some k) : u.ownBlock = none ∨ u.ownBlock ≠ v.ownBlock := by
  cases hu : u.ownBlock with
  | none => exact .inl rfl
  | some k => exact .inr (fun e => h k hu e.symm)
set_option maxHeartbeats 32000000 in
set_option maxRecDepth 100000 in
theorem sinktake_any (kd n turn : Int) (ps : List Sd) (ms : List Int) (st : List En) (es : List Ev) (rs : List Rw) (ls : List Rc) (P M S E R L : Option Addr) (cp cm cs ce cr cl n1 n2 n3 n4 n5 n6 : Nat) (m : Ms) (w : World)
    (h1 : ps.length = n1) (h2 : ms.length = n2) (h3 : st.length = n3) (h4 : es.length = n4) (h5 : rs.length = n5) (h6 : ls.length = n6)
    (b1 : n1 ≤ 1099511627776) (b2 : n2 ≤ 1099511627776) (b3 : n3 ≤ 1099511627776) (b4 : n4 ≤ 1099511627776) (b5 : n5 ≤ 1099511627776) (b6 : n6 ≤ 1099511627776)
    (z1 : P = none → cp = 0) (z2 : M = none → cm = 0) (z3 : S = none → cs = 0) (z4 : E = none → ce = 0) (z5 : R = none → cr = 0) (z6 : L = none → cl = 0)
    (r1 : Rd sdenc 11 w w.heap.size P ps) (r2 : Rd ienc 1 w w.heap.size M ms) (r3 : Rd enenc 11 w w.heap.size S st) (r4 : Rd evenc 5 w w.heap.size E es) (r5 : Rd wenc 5 w w.heap.size R rs) (r6 : Rd renc 3 w w.heap.size L ls) :
    Calls Try.prog 41 #[.agg #[.int .u8 kd, .int .i64 n, .int .i64 turn, .slice P n1 cp, .slice M n2 cm, .slice S n3 cs, .slice E n4 ce, .slice R n5 cr, .slice L n6 cl], .agg #[.int .u8 m.kind, .int .i64 m.k, .int .i64 m.t, .int .i64 m.v, .int .i64 m.time, .int .i64 m.rk, .int .i64 m.rs, .int .i64 m.re, .int .i64 m.ra, .int .i64 m.rb]] w (TakeQ (takeP ⟨kd, n, turn, ps, ms, st, es, rs, ls⟩ m).1 (takeP ⟨kd, n, turn, ps, ms, st, es, rs, ls⟩ m).2 w) := by
  have hck := fun W (hb : Below w.heap.size w W) => tkcheck_any kd n turn ps ms st es rs ls P M S E R L cp cm cs ce cr cl n1 n2 n3 n4 n5 n6 W h1 h2 h3 h4 h5 h6 b1 b2 b3 b4 b5 b6 (rd_grown r1 hb) (rd_grown r2 hb) (rd_grown r3 hb) (rd_grown r4 hb) (rd_grown r5 hb) (rd_grown r6 hb)
  obtain ⟨K, hK⟩ : ∃ K, K = tkok ⟨kd, n, turn, ps, ms, st, es, rs, ls⟩ := ⟨_, rfl⟩
  rw [← hK] at hck
  have hpe := fun (hk : tkok ⟨kd, n, turn, ps, ms, st, es, rs, ls⟩ = true) W (hb : Below w.heap.size w W) => tkpend_any kd n turn ps ms st es rs ls P M S E R L cp cm cs ce cr cl n1 n2 n3 n4 n5 n6 W h1 h2 h3 h4 h5 h6 b1 b2 b3 b4 b5 b6 z1 z2 z3 z4 z5 z6 (rd_grown r1 hb) (rd_grown r2 hb) (rd_grown r3 hb) (rd_grown r4 hb) (rd_grown r5 hb) (rd_grown r6 hb) hk
  obtain ⟨V, hV⟩ : ∃ V, V = msok m := ⟨_, rfl⟩
  have hmc := fun W => mcheck_any m.kind m.k m.t m.v m.time m.rk m.rs m.re m.ra m.rb W
  rw [show (⟨m.kind, m.k, m.t, m.v, m.time, m.rk, m.rs, m.re, m.ra, m.rb⟩ : Ms) = m from rfl, ← hV] at hmc
  have HCK := Lib.hid hck; have HPE := Lib.hid hpe; have HMC := Lib.hid hmc; have HK := Lib.hid hK; have HV := Lib.hid hV
  have HN1 := Lib.hid h1; have HN2 := Lib.hid h2; have HN3 := Lib.hid h3; have HN4 := Lib.hid h4; have HN5 := Lib.hid h5; have HN6 := Lib.hid h6
  clear hck hpe hmc hK hV h1 h2 h3 h4 h5 h6 z1 z2 z3 z4 z5 z6
  obtain ⟨W3, hW3, hl, hb, hs3⟩ : ∃ W3, W3 = ((w.alloc (.cells #[.int .u8 kd, .int .i64 n, .int .i64 turn, .slice P n1 cp, .slice M n2 cm, .slice S n3 cs, .slice E n4 ce, .slice R n5 cr, .slice L n6 cl] 67)).alloc (.cells #[.int .u8 m.kind, .int .i64 m.k, .int .i64 m.t, .int .i64 m.v, .int .i64 m.time, .int .i64 m.rk, .int .i64 m.rs, .int .i64 m.re, .int .i64 m.ra, .int .i64 m.rb] 74)).alloc (.cells #[.int .u8 0, .int .i64 0, .int .i64 0, .slice none 0 0, .slice none 0 0, .slice none 0 0, .slice none 0 0, .slice none 0 0, .slice none 0 0] 67) ∧ Loc W3 [(w.heap.size, [.int .u8 kd, .int .i64 n, .int .i64 turn, .slice P n1 cp, .slice M n2 cm, .slice S n3 cs, .slice E n4 ce, .slice R n5 cr, .slice L n6 cl]), (w.heap.size + 1, [.int .u8 m.kind, .int .i64 m.k, .int .i64 m.t, .int .i64 m.v, .int .i64 m.time, .int .i64 m.rk, .int .i64 m.rs, .int .i64 m.re, .int .i64 m.ra, .int .i64 m.rb]), (w.heap.size + 2, [.int .u8 0, .int .i64 0, .int .i64 0, .slice none 0 0, .slice none 0 0, .slice none 0 0, .slice none 0 0, .slice none 0 0, .slice none 0 0])] ∧ Below w.heap.size w W3 ∧ w.heap.size + 3 ≤ W3.heap.size := by
    refine ⟨_, rfl, ?_, below_new (below_new (below_new (Below.refl _ _) _) _) _, by rw [World.size_alloc, World.size_alloc, World.size_alloc]; exact Nat.le_refl _⟩
    have g := (((Loc.nil w).new [.int .u8 kd, .int .i64 n, .int .i64 turn, .slice P n1 cp, .slice M n2 cm, .slice S n3 cs, .slice E n4 ce, .slice R n5 cr, .slice L n6 cl] 67).new [.int .u8 m.kind, .int .i64 m.k, .int .i64 m.t, .int .i64 m.v, .int .i64 m.time, .int .i64 m.rk, .int .i64 m.rs, .int .i64 m.re, .int .i64 m.ra, .int .i64 m.rb] 74).new [.int .u8 0, .int .i64 0, .int .i64 0, .slice none 0 0, .slice none 0 0, .slice none 0 0, .slice none 0 0, .slice none 0 0, .slice none 0 0] 67
    (repeat rw [World.size_alloc] at g)
    obtain ⟨a1, a2, a3, c1, c2, c3, e1, e2, e3, -⟩ := g
    exact ⟨e1, e2, e3, c1, c2, c3, a1, a2, a3, trivial⟩
  have HW3 := Lib.hid hW3
  clear hW3
  cases K with
  | false =>
    have hp : takeP ⟨kd, n, turn, ps, ms, st, es, rs, ls⟩ m = (tk0, 8) := by unfold takeP; rw [if_pos HK.out.symm]
    have HP := Lib.hid hp
    clear hp
    go_enter Try.func41, Try.ntmps41
    go_upto_region 1 with (fail)
    rw [← HW3.out]
    have hF := hl
    (repeat unfold Loc at hF)
    go_wp2_with fail
    go_at_call 79
    refine (HCK.out _ hb).mono ?_
    rintro r w4 ⟨rfl, hb4⟩
    have hl4 := hl.below hb4
    have hbb4 := below_then hb hb4
    have hs4 := Nat.le_trans hs3 hb4.size
    clear hF
    have hF := hl4
    (repeat unfold Loc at hF)
    go_wp2_with fail
    refine bodyPost_ret (v := _) (by rw [results_cell_tmp Try.results41]; go_simp; rfl) rfl ?_
    rw [HP.out]
    exact take_zero (by (repeat first | refine below_put ?_ (by dsimp only; omega) _ | exact hbb4))
  | true =>
  have hpe : _ := HPE.out HK.out.symm
  have HPE2 := Lib.hid hpe
  clear hpe HPE
  have hkp := tkok_kept HK.out.symm
  by_cases h7 : kd = 7
  · subst h7
    obtain ⟨e2, e3, e4, e5, hle⟩ := kept7 hkp rfl
    dsimp only at e2 e3 e4 e5 hle
    subst e2 e3 e4 e5
    obtain rfl := HN2.out; obtain rfl := HN3.out; obtain rfl := HN4.out; obtain rfl := HN5.out
    rw [HN6.out] at hle
    simp only [List.length_nil] at *
    by_cases hm : V = true ∧ m.kind = 4
    · obtain ⟨rfl, hk2⟩ := hm
      have dk : (m.kind != 4) = false := by simp [hk2]
      by_cases hfu : n6 = 4000
      · have hp : takeP ⟨7, n, turn, ps, [], [], [], [], ls⟩ m = (tk0, 4) := by unfold takeP; rw [if_neg (by rw [← HK.out]; simp), if_pos rfl, if_pos ⟨HV.out.symm, hk2⟩, if_pos (by dsimp only; rw [HN6.out]; omega)]
        have HP := Lib.hid hp
        have dfu : ((n6 : Int) == 4000) = true := by simp [hfu]; try omega
        have dmx : max (0 : Int) (n6 : Int) = (n6 : Int) := by omega
        clear hp hfu hk2 hkp
        go_enter Try.func41, Try.ntmps41
        go_upto_region 1 with (fail)
        rw [← HW3.out]
        have hF := hl
        (repeat unfold Loc at hF)
        go_wp2_with fail
        go_at_call 79
        refine (HCK.out _ hb).mono ?_
        rintro r w4 ⟨rfl, hb4⟩
        have hl4 := hl.below hb4
        have hbb4 := below_then hb hb4
        have hs4 := Nat.le_trans hs3 hb4.size
        clear hF
        have hF := hl4
        (repeat unfold Loc at hF)
        go_wp2_with fail
        go_at_call 80
        refine (HMC.out _).mono ?_
        rintro r w5 ⟨rfl, hb5⟩
        have hl5 := hl4.below hb5
        have hbb5 := below_then hbb4 hb5
        have hs5 := Nat.le_trans hs4 hb5.size
        clear hF hl4 hbb4
        have hF := hl5
        (repeat unfold Loc at hF)
        go_wp2_with fail
        refine bodyPost_ret (v := _) (by rw [results_cell_tmp Try.results41]; go_simp; rfl) rfl ?_
        rw [HP.out]
        exact take_zero (by (repeat first | refine below_put ?_ (by dsimp only; omega) _ | exact hbb5))
      · have hp : takeP ⟨7, n, turn, ps, [], [], [], [], ls⟩ m = (⟨7, n, turn, ps, [], [], [], [], ls ++ [(⟨m.k, m.t, m.v⟩ : Rc)]⟩, 0) := by unfold takeP; rw [if_neg (by rw [← HK.out]; simp), if_pos rfl, if_pos ⟨HV.out.symm, hk2⟩, if_neg (by dsimp only; rw [HN6.out]; omega)]; rfl
        have HP := Lib.hid hp
        have dfu : ((n6 : Int) == 4000) = false := by simp; omega
        have dmx : max (0 : Int) (n6 : Int) = (n6 : Int) := by omega
        have hlt : n6 < 4000 := by omega
        clear hp hfu hk2 hkp
        go_enter Try.func41, Try.ntmps41
        go_upto_region 1 with (fail)
        rw [← HW3.out]
        have hF := hl
        (repeat unfold Loc at hF)
        go_wp2_with fail
        go_at_call 79
        refine (HCK.out _ hb).mono ?_
        rintro r w4 ⟨rfl, hb4⟩
        have hl4 := hl.below hb4
        have hbb4 := below_then hb hb4
        have hs4 := Nat.le_trans hs3 hb4.size
        clear hF
        have hF := hl4
        (repeat unfold Loc at hF)
        go_wp2_with fail
        go_at_call 80
        refine (HMC.out _).mono ?_
        rintro r w5 ⟨rfl, hb5⟩
        have hl5 := hl4.below hb5
        have hbb5 := below_then hbb4 hb5
        have hs5 := Nat.le_trans hs4 hb5.size
        clear hF hl4 hbb4
        have hF := hl5
        (repeat unfold Loc at hF)
        go_wp2_with fail
        go_at_call 81
        refine (HPE2.out _ hbb5).mono ?_
        rintro r w6 ⟨P1, M2, S3, E4, R5, L6, g1, g2, g3, g4, g5, g6, rfl, own, hb6⟩
        have own6 := own.mono hs5
        have hl6 := hl5.below hb6
        have hbb6 := below_then hbb5 hb6
        have hs6 := Nat.le_trans hs5 hb6.size
        clear hF hl5 hbb5 own
        have hF := hl6
        (repeat unfold Loc at hF)
        go_upto_region 13 with (fail)
        have hne : ∀ q ∈ ([(w.heap.size + 1, [.int .u8 m.kind, .int .i64 m.k, .int .i64 m.t, .int .i64 m.v, .int .i64 m.time, .int .i64 m.rk, .int .i64 m.rs, .int .i64 m.re, .int .i64 m.ra, .int .i64 m.rb]), (w.heap.size + 2, [.int .u8 0, .int .i64 0, .int .i64 0, .slice none 0 0, .slice none 0 0, .slice none 0 0, .slice none 0 0, .slice none 0 0, .slice none 0 0])] : List (Nat × List Value)), q.1 ≠ w.heap.size := by simp
        obtain ⟨Z, hZ, hlZ, hbZ, hsZ, oZ⟩ : ∃ Z, Z = put9 w6 w.heap.size (.int .u8 7) (.int .i64 n) (.int .i64 turn) (.slice P1 n1 g1) (.slice M2 0 g2) (.slice S3 0 g3) (.slice E4 0 g4) (.slice R5 0 g5) (.slice L6 n6 g6) ∧ Loc Z [(w.heap.size, [.int .u8 7, .int .i64 n, .int .i64 turn, .slice P1 n1 g1, .slice M2 0 g2, .slice S3 0 g3, .slice E4 0 g4, .slice R5 0 g5, .slice L6 n6 g6]), (w.heap.size + 1, [.int .u8 m.kind, .int .i64 m.k, .int .i64 m.t, .int .i64 m.v, .int .i64 m.time, .int .i64 m.rk, .int .i64 m.rs, .int .i64 m.re, .int .i64 m.ra, .int .i64 m.rb]), (w.heap.size + 2, [.int .u8 0, .int .i64 0, .int .i64 0, .slice none 0 0, .slice none 0 0, .slice none 0 0, .slice none 0 0, .slice none 0 0, .slice none 0 0])] ∧ Below w.heap.size w Z ∧ w.heap.size + 3 ≤ Z.heap.size ∧ OwnT Z (w.heap.size + 3) P1 M2 S3 E4 R5 L6 g1 g2 g3 g4 g5 g6 n1 0 0 0 0 n6 ps [] [] [] [] ls :=
          ⟨_, rfl, put9_loc hl6 hne _ _ _ _ _ _ _ _ _, put9_below hbb6 (Nat.le_refl _) _ _ _ _ _ _ _ _ _, by rw [put9_size]; exact hs6, own6.put9 (by omega) _ _ _ _ _ _ _ _ _⟩
        unfold put9 at hZ
        rw [← hZ]
        obtain ⟨i0, hi0, hz0, hz1, hz2⟩ := info_parts r_info
        clear hZ hl6 hbb6 own6 hF hne hb6 hs5 hs6 hb4 hb5 hl hb hs3 hs4
        have hF := hlZ
        (repeat unfold Loc at hF)
        obtain ⟨⟨o1, y1⟩, ⟨o2, y2⟩, ⟨o3, y3⟩, ⟨o4, y4⟩, ⟨o5, y5⟩, ⟨o6, y6⟩, ap⟩ := oZ
        have hlen : (ls ++ [(⟨m.k, m.t, m.v⟩ : Rc)]).length = n6 + 1 := by rw [List.length_append, HN6.out]; rfl
        have HLEN := Lib.hid hlen
        clear hlen
        go_wp2_with (at_builtin; refine wpList_append_fs rfl (.tmp 64) (.tmp 67) 65 rfl (w.heap.size + 3) 69 i0 (.agg #[.int .i64 0, .int .i64 0, .int .i64 0]) 3 24 Try.underlying65 hi0 hz0 hz1 hz2 rfl (by decide) renc renc_len (.slice L6 n6 g6) ls (⟨m.k, m.t, m.v⟩ : Rc) rfl (o6.alloc (.cells #[.int .i64 m.k, .int .i64 m.t, .int .i64 m.v] 69)) ⟨Z.heap.size, 0, none⟩ 1 rfl (r_new Z (⟨m.k, m.t, m.v⟩ : Rc) 69 Z.heap.size rfl) (renc_one _) (by unfold maxLen; rw [HN6.out]; omega) (by rw [HN6.out]; omega) (by rw [World.size_alloc]; omega) ?_; intro v7 w7 own7 hgr7 hsf; obtain ⟨A7, c7, rfl, -, y7⟩ := own_shape_z own7 HLEN.out; have hl7 := (hlZ.old (.cells #[.int .i64 m.k, .int .i64 m.t, .int .i64 m.v] 69)).grown hgr7 (fun q hq e => by have hh := (World.ownsRow.lt (o6.alloc (.cells #[.int .i64 m.k, .int .i64 m.t, .int .i64 m.v] 69)) q.1 e.symm).1; simp at hq; rcases hq with rfl | rfl | rfl <;> (dsimp only at hh; omega)); have hF7 := hl7; (repeat unfold Loc at hF7))
        refine bodyPost_ret (v := _) (by rw [results_cell_tmp Try.results41]; go_simp; rfl) rfl ?_
        rw [HP.out]
        have hb7 : Below w.heap.size w w7 := (below_new hbZ (.cells #[.int .i64 m.k, .int .i64 m.t, .int .i64 m.v] 69)).trans (below_of_grown hgr7 (fun k hk => by have := (World.ownsRow.lt (o6.alloc (.cells #[.int .i64 m.k, .int .i64 m.t, .int .i64 m.v] 69)) k hk).1; omega) (by rw [World.size_alloc]; omega))
        have o1b := (o1.alloc (.cells #[.int .i64 m.k, .int .i64 m.t, .int .i64 m.v] 69)).grown hgr7 (apart_ne fun k hk => (ap k hk).2)
        have o1c := put9_own (own_cell o1b (by omega : w.heap.size < w.heap.size + 3) 8 (.slice A7 (n6 + 1) c7)) (by omega : w.heap.size + 2 < w.heap.size + 3) (.int .u8 7) (.int .i64 n) (.int .i64 turn) (.slice P1 n1 g1) (.slice M2 0 g2) (.slice S3 0 g3) (.slice E4 0 g4) (.slice R5 0 g5) (.slice A7 (n6 + 1) c7)
        have o7c := put9_own (own_cell own7 (by omega : w.heap.size < w.heap.size + 3) 8 (.slice A7 (n6 + 1) c7)) (by omega : w.heap.size + 2 < w.heap.size + 3) (.int .u8 7) (.int .i64 n) (.int .i64 turn) (.slice P1 n1 g1) (.slice M2 0 g2) (.slice S3 0 g3) (.slice E4 0 g4) (.slice R5 0 g5) (.slice A7 (n6 + 1) c7)
        obtain rfl := HN1.out
        refine ⟨⟨P1, g1, M2, g2, S3, g3, E4, g4, R5, g5, A7, c7⟩, ?_, ⟨Own.rd sdenc_len o1c, rd_emp, rd_emp, rd_emp, rd_emp, Own.rd renc_len o7c⟩, ⟨y1, y2, y3, y4, y5, y7⟩, put9_below (below_put hb7 (Nat.le_refl _) _) (by omega) _ _ _ _ _ _ _ _ _, fun ad e => by have := own_far o5 ad e; omega, fun ad e => by have := own_far own7 ad e; omega⟩
        unfold tkcells
        dsimp only
        rw [HLEN.out]
        rfl
    · have hp : takeP ⟨7, n, turn, ps, [], [], [], [], ls⟩ m = (tk0, 8) := by unfold takeP; rw [if_neg (by rw [← HK.out]; simp), if_pos rfl, if_neg (by rw [← HV.out]; exact hm)]
      have HP := Lib.hid hp
      clear hp hkp
      rcases V with _ | _
      · clear hm
        go_enter Try.func41, Try.ntmps41
        go_upto_region 1 with (fail)
        rw [← HW3.out]
        have hF := hl
        (repeat unfold Loc at hF)
        go_wp2_with fail
        go_at_call 79
        refine (HCK.out _ hb).mono ?_
        rintro r w4 ⟨rfl, hb4⟩
        have hl4 := hl.below hb4
        have hbb4 := below_then hb hb4
        have hs4 := Nat.le_trans hs3 hb4.size
        clear hF
        have hF := hl4
        (repeat unfold Loc at hF)
        go_wp2_with fail
        go_at_call 80
        refine (HMC.out _).mono ?_
        rintro r w5 ⟨rfl, hb5⟩
        have hl5 := hl4.below hb5
        have hbb5 := below_then hbb4 hb5
        have hs5 := Nat.le_trans hs4 hb5.size
        clear hF hl4 hbb4
        have hF := hl5
        (repeat unfold Loc at hF)
        go_wp2_with fail
        refine bodyPost_ret (v := _) (by rw [results_cell_tmp Try.results41]; go_simp; rfl) rfl ?_
        rw [HP.out]
        exact take_zero (by (repeat first | refine below_put ?_ (by dsimp only; omega) _ | exact hbb5))
      · have dk : (m.kind != 4) = true := by simpa using hm
        clear hm
        go_enter Try.func41, Try.ntmps41
        go_upto_region 1 with (fail)
        rw [← HW3.out]
        have hF := hl
        (repeat unfold Loc at hF)
        go_wp2_with fail
        go_at_call 79
        refine (HCK.out _ hb).mono ?_
        rintro r w4 ⟨rfl, hb4⟩
        have hl4 := hl.below hb4
        have hbb4 := below_then hb hb4
        have hs4 := Nat.le_trans hs3 hb4.size
        clear hF
        have hF := hl4
        (repeat unfold Loc at hF)
        go_wp2_with fail
        go_at_call 80
        refine (HMC.out _).mono ?_
        rintro r w5 ⟨rfl, hb5⟩
        have hl5 := hl4.below hb5
        have hbb5 := below_then hbb4 hb5
        have hs5 := Nat.le_trans hs4 hb5.size
        clear hF hl4 hbb4
        have hF := hl5
        (repeat unfold Loc at hF)
        go_wp2_with fail
        refine bodyPost_ret (v := _) (by rw [results_cell_tmp Try.results41]; go_simp; rfl) rfl ?_
        rw [HP.out]
        exact take_zero (by (repeat first | refine below_put ?_ (by dsimp only; omega) _ | exact hbb5))
  by_cases h6 : kd = 6
  · subst h6
    obtain ⟨e2, e3, e4, e6, hle⟩ := kept6 hkp rfl
    dsimp only at e2 e3 e4 e6 hle
    subst e2 e3 e4 e6
    obtain rfl := HN2.out; obtain rfl := HN3.out; obtain rfl := HN4.out; obtain rfl := HN6.out
    rw [HN5.out] at hle
    simp only [List.length_nil] at *
    by_cases hm : V = true ∧ m.kind = 3
    · obtain ⟨rfl, hk2⟩ := hm
      have dk : (m.kind != 3) = false := by simp [hk2]
      by_cases hfu : n5 = 4000
      · have hp : takeP ⟨6, n, turn, ps, [], [], [], rs, []⟩ m = (tk0, 4) := by unfold takeP; rw [if_neg (by rw [← HK.out]; simp), if_neg (by simp), if_pos rfl, if_pos ⟨HV.out.symm, hk2⟩, if_pos (by dsimp only; rw [HN5.out]; omega)]
        have HP := Lib.hid hp
        have dfu : ((n5 : Int) == 4000) = true := by simp [hfu]; try omega
        have dmx : max (n5 : Int) (0 : Int) = (n5 : Int) := by omega
        clear hp hfu hk2 hkp
        go_enter Try.func41, Try.ntmps41
        go_upto_region 1 with (fail)
        rw [← HW3.out]
        have hF := hl
        (repeat unfold Loc at hF)
        go_wp2_with fail
        go_at_call 79
        refine (HCK.out _ hb).mono ?_
        rintro r w4 ⟨rfl, hb4⟩
        have hl4 := hl.below hb4
        have hbb4 := below_then hb hb4
        have hs4 := Nat.le_trans hs3 hb4.size
        clear hF
        have hF := hl4
        (repeat unfold Loc at hF)
        go_wp2_with fail
        go_at_call 80
        refine (HMC.out _).mono ?_
        rintro r w5 ⟨rfl, hb5⟩
        have hl5 := hl4.below hb5
        have hbb5 := below_then hbb4 hb5
        have hs5 := Nat.le_trans hs4 hb5.size
        clear hF hl4 hbb4
        have hF := hl5
        (repeat unfold Loc at hF)
        go_wp2_with fail
        refine bodyPost_ret (v := _) (by rw [results_cell_tmp Try.results41]; go_simp; rfl) rfl ?_
        rw [HP.out]
        exact take_zero (by (repeat first | refine below_put ?_ (by dsimp only; omega) _ | exact hbb5))
      · have hp : takeP ⟨6, n, turn, ps, [], [], [], rs, []⟩ m = (⟨6, n, turn, ps, [], [], [], rs ++ [(⟨m.rk, m.rs, m.re, m.ra, m.rb⟩ : Rw)], []⟩, 0) := by unfold takeP; rw [if_neg (by rw [← HK.out]; simp), if_neg (by simp), if_pos rfl, if_pos ⟨HV.out.symm, hk2⟩, if_neg (by dsimp only; rw [HN5.out]; omega)]; rfl
        have HP := Lib.hid hp
        have dfu : ((n5 : Int) == 4000) = false := by simp; omega
        have dmx : max (n5 : Int) (0 : Int) = (n5 : Int) := by omega
        have hlt : n5 < 4000 := by omega
        clear hp hfu hk2 hkp
        go_enter Try.func41, Try.ntmps41
        go_upto_region 1 with (fail)
        rw [← HW3.out]
        have hF := hl
        (repeat unfold Loc at hF)
        go_wp2_with fail
        go_at_call 79
        refine (HCK.out _ hb).mono ?_
        rintro r w4 ⟨rfl, hb4⟩
        have hl4 := hl.below hb4
        have hbb4 := below_then hb hb4
        have hs4 := Nat.le_trans hs3 hb4.size
        clear hF
        have hF := hl4
        (repeat unfold Loc at hF)
        go_wp2_with fail
        go_at_call 80
        refine (HMC.out _).mono ?_
        rintro r w5 ⟨rfl, hb5⟩
        have hl5 := hl4.below hb5
        have hbb5 := below_then hbb4 hb5
        have hs5 := Nat.le_trans hs4 hb5.size
        clear hF hl4 hbb4
        have hF := hl5
        (repeat unfold Loc at hF)
        go_wp2_with fail
        go_at_call 81
        refine (HPE2.out _ hbb5).mono ?_
        rintro r w6 ⟨P1, M2, S3, E4, R5, L6, g1, g2, g3, g4, g5, g6, rfl, own, hb6⟩
        have own6 := own.mono hs5
        have hl6 := hl5.below hb6
        have hbb6 := below_then hbb5 hb6
        have hs6 := Nat.le_trans hs5 hb6.size
        clear hF hl5 hbb5 own
        have hF := hl6
        (repeat unfold Loc at hF)
        go_upto_region 14 with (fail)
        have hne : ∀ q ∈ ([(w.heap.size + 1, [.int .u8 m.kind, .int .i64 m.k, .int .i64 m.t, .int .i64 m.v, .int .i64 m.time, .int .i64 m.rk, .int .i64 m.rs, .int .i64 m.re, .int .i64 m.ra, .int .i64 m.rb]), (w.heap.size + 2, [.int .u8 0, .int .i64 0, .int .i64 0, .slice none 0 0, .slice none 0 0, .slice none 0 0, .slice none 0 0, .slice none 0 0, .slice none 0 0])] : List (Nat × List Value)), q.1 ≠ w.heap.size := by simp
        obtain ⟨Z, hZ, hlZ, hbZ, hsZ, oZ⟩ : ∃ Z, Z = put9 w6 w.heap.size (.int .u8 6) (.int .i64 n) (.int .i64 turn) (.slice P1 n1 g1) (.slice M2 0 g2) (.slice S3 0 g3) (.slice E4 0 g4) (.slice R5 n5 g5) (.slice L6 0 g6) ∧ Loc Z [(w.heap.size, [.int .u8 6, .int .i64 n, .int .i64 turn, .slice P1 n1 g1, .slice M2 0 g2, .slice S3 0 g3, .slice E4 0 g4, .slice R5 n5 g5, .slice L6 0 g6]), (w.heap.size + 1, [.int .u8 m.kind, .int .i64 m.k, .int .i64 m.t, .int .i64 m.v, .int .i64 m.time, .int .i64 m.rk, .int .i64 m.rs, .int .i64 m.re, .int .i64 m.ra, .int .i64 m.rb]), (w.heap.size + 2, [.int .u8 0, .int .i64 0, .int .i64 0, .slice none 0 0, .slice none 0 0, .slice none 0 0, .slice none 0 0, .slice none 0 0, .slice none 0 0])] ∧ Below w.heap.size w Z ∧ w.heap.size + 3 ≤ Z.heap.size ∧ OwnT Z (w.heap.size + 3) P1 M2 S3 E4 R5 L6 g1 g2 g3 g4 g5 g6 n1 0 0 0 n5 0 ps [] [] [] rs [] :=
          ⟨_, rfl, put9_loc hl6 hne _ _ _ _ _ _ _ _ _, put9_below hbb6 (Nat.le_refl _) _ _ _ _ _ _ _ _ _, by rw [put9_size]; exact hs6, own6.put9 (by omega) _ _ _ _ _ _ _ _ _⟩
        unfold put9 at hZ
        rw [← hZ]
        obtain ⟨i0, hi0, hz0, hz1, hz2⟩ := info_parts w_info
        clear hZ hl6 hbb6 own6 hF hne hb6 hs5 hs6 hb4 hb5 hl hb hs3 hs4
        have hF := hlZ
        (repeat unfold Loc at hF)
        obtain ⟨⟨o1, y1⟩, ⟨o2, y2⟩, ⟨o3, y3⟩, ⟨o4, y4⟩, ⟨o5, y5⟩, ⟨o6, y6⟩, ap⟩ := oZ
        have hlen : (rs ++ [(⟨m.rk, m.rs, m.re, m.ra, m.rb⟩ : Rw)]).length = n5 + 1 := by rw [List.length_append, HN5.out]; rfl
        have HLEN := Lib.hid hlen
        clear hlen
        go_wp2_with (at_builtin; refine wpList_append_fs rfl (.tmp 71) (.tmp 74) 64 rfl (w.heap.size + 3) 72 i0 (.agg #[.int .i64 0, .int .i64 0, .int .i64 0, .int .i64 0, .int .i64 0]) 5 40 Try.underlying64 hi0 hz0 hz1 hz2 rfl (by decide) wenc wenc_len (.slice R5 n5 g5) rs (⟨m.rk, m.rs, m.re, m.ra, m.rb⟩ : Rw) rfl (o5.alloc (.cells #[.int .i64 m.rk, .int .i64 m.rs, .int .i64 m.re, .int .i64 m.ra, .int .i64 m.rb] 72)) ⟨Z.heap.size, 0, none⟩ 1 rfl (w_new Z (⟨m.rk, m.rs, m.re, m.ra, m.rb⟩ : Rw) 72 Z.heap.size rfl) (wenc_one _) (by unfold maxLen; rw [HN5.out]; omega) (by rw [HN5.out]; omega) (by rw [World.size_alloc]; omega) ?_; intro v7 w7 own7 hgr7 hsf; obtain ⟨A7, c7, rfl, -, y7⟩ := own_shape_z own7 HLEN.out; have hl7 := (hlZ.old (.cells #[.int .i64 m.rk, .int .i64 m.rs, .int .i64 m.re, .int .i64 m.ra, .int .i64 m.rb] 72)).grown hgr7 (fun q hq e => by have hh := (World.ownsRow.lt (o5.alloc (.cells #[.int .i64 m.rk, .int .i64 m.rs, .int .i64 m.re, .int .i64 m.ra, .int .i64 m.rb] 72)) q.1 e.symm).1; simp at hq; rcases hq with rfl | rfl | rfl <;> (dsimp only at hh; omega)); have hF7 := hl7; (repeat unfold Loc at hF7))
        refine bodyPost_ret (v := _) (by rw [results_cell_tmp Try.results41]; go_simp; rfl) rfl ?_
        rw [HP.out]
        have hb7 : Below w.heap.size w w7 := (below_new hbZ (.cells #[.int .i64 m.rk, .int .i64 m.rs, .int .i64 m.re, .int .i64 m.ra, .int .i64 m.rb] 72)).trans (below_of_grown hgr7 (fun k hk => by have := (World.ownsRow.lt (o5.alloc (.cells #[.int .i64 m.rk, .int .i64 m.rs, .int .i64 m.re, .int .i64 m.ra, .int .i64 m.rb] 72)) k hk).1; omega) (by rw [World.size_alloc]; omega))
        have o1b := (o1.alloc (.cells #[.int .i64 m.rk, .int .i64 m.rs, .int .i64 m.re, .int .i64 m.ra, .int .i64 m.rb] 72)).grown hgr7 (apart_ne fun k hk => (ap k hk).1)
        have o1c := put9_own (own_cell o1b (by omega : w.heap.size < w.heap.size + 3) 7 (.slice A7 (n5 + 1) c7)) (by omega : w.heap.size + 2 < w.heap.size + 3) (.int .u8 6) (.int .i64 n) (.int .i64 turn) (.slice P1 n1 g1) (.slice M2 0 g2) (.slice S3 0 g3) (.slice E4 0 g4) (.slice A7 (n5 + 1) c7) (.slice L6 0 g6)
        have o7c := put9_own (own_cell own7 (by omega : w.heap.size < w.heap.size + 3) 7 (.slice A7 (n5 + 1) c7)) (by omega : w.heap.size + 2 < w.heap.size + 3) (.int .u8 6) (.int .i64 n) (.int .i64 turn) (.slice P1 n1 g1) (.slice M2 0 g2) (.slice S3 0 g3) (.slice E4 0 g4) (.slice A7 (n5 + 1) c7) (.slice L6 0 g6)
        obtain rfl := HN1.out
        refine ⟨⟨P1, g1, M2, g2, S3, g3, E4, g4, A7, c7, L6, g6⟩, ?_, ⟨Own.rd sdenc_len o1c, rd_emp, rd_emp, rd_emp, Own.rd wenc_len o7c, rd_emp⟩, ⟨y1, y2, y3, y4, y7, y6⟩, put9_below (below_put hb7 (Nat.le_refl _) _) (by omega) _ _ _ _ _ _ _ _ _, fun ad e => by have := own_far own7 ad e; omega, fun ad e => by have := own_far o6 ad e; omega⟩
        unfold tkcells
        dsimp only
        rw [HLEN.out]
        rfl
    · have hp : takeP ⟨6, n, turn, ps, [], [], [], rs, []⟩ m = (tk0, 8) := by unfold takeP; rw [if_neg (by rw [← HK.out]; simp), if_neg (by simp), if_pos rfl, if_neg (by rw [← HV.out]; exact hm)]
      have HP := Lib.hid hp
      clear hp hkp
      rcases V with _ | _
      · clear hm
        go_enter Try.func41, Try.ntmps41
        go_upto_region 1 with (fail)
        rw [← HW3.out]
        have hF := hl
        (repeat unfold Loc at hF)
        go_wp2_with fail
        go_at_call 79
        refine (HCK.out _ hb).mono ?_
        rintro r w4 ⟨rfl, hb4⟩
        have hl4 := hl.below hb4
        have hbb4 := below_then hb hb4
        have hs4 := Nat.le_trans hs3 hb4.size
        clear hF
        have hF := hl4
        (repeat unfold Loc at hF)
        go_wp2_with fail
        go_at_call 80
        refine (HMC.out _).mono ?_
        rintro r w5 ⟨rfl, hb5⟩
        have hl5 := hl4.below hb5
        have hbb5 := below_then hbb4 hb5
        have hs5 := Nat.le_trans hs4 hb5.size
        clear hF hl4 hbb4
        have hF := hl5
        (repeat unfold Loc at hF)
        go_wp2_with fail
        refine bodyPost_ret (v := _) (by rw [results_cell_tmp Try.results41]; go_simp; rfl) rfl ?_
        rw [HP.out]
        exact take_zero (by (repeat first | refine below_put ?_ (by dsimp only; omega) _ | exact hbb5))
      · have dk : (m.kind != 3) = true := by simpa using hm
        clear hm
        go_enter Try.func41, Try.ntmps41
        go_upto_region 1 with (fail)
        rw [← HW3.out]
        have hF := hl
        (repeat unfold Loc at hF)
        go_wp2_with fail
        go_at_call 79
        refine (HCK.out _ hb).mono ?_
        rintro r w4 ⟨rfl, hb4⟩
        have hl4 := hl.below hb4
        have hbb4 := below_then hb hb4
        have hs4 := Nat.le_trans hs3 hb4.size
        clear hF
        have hF := hl4
        (repeat unfold Loc at hF)
        go_wp2_with fail
        go_at_call 80
        refine (HMC.out _).mono ?_
        rintro r w5 ⟨rfl, hb5⟩
        have hl5 := hl4.below hb5
        have hbb5 := below_then hbb4 hb5
        have hs5 := Nat.le_trans hs4 hb5.size
        clear hF hl4 hbb4
        have hF := hl5
        (repeat unfold Loc at hF)
        go_wp2_with fail
        refine bodyPost_ret (v := _) (by rw [results_cell_tmp Try.results41]; go_simp; rfl) rfl ?_
        rw [HP.out]
        exact take_zero (by (repeat first | refine below_put ?_ (by dsimp only; omega) _ | exact hbb5))
  have hp : takeP ⟨kd, n, turn, ps, ms, st, es, rs, ls⟩ m = (tk0, 2) := by unfold takeP; rw [if_neg (by rw [← HK.out]; simp), if_neg h7, if_neg h6]
  have HP := Lib.hid hp
  have d7 : (kd == 7) = false := by simp [h7]
  have d6 : (kd != 6) = true := by simp [h6]
  clear hp h7 h6 hkp
  go_enter Try.func41, Try.ntmps41
  go_upto_region 1 with (fail)
  rw [← HW3.out]
  have hF := hl
  (repeat unfold Loc at hF)
  go_wp2_with fail
  go_at_call 79
  refine (HCK.out _ hb).mono ?_
  rintro r w4 ⟨rfl, hb4⟩
  have hl4 := hl.below hb4
  have hbb4 := below_then hb hb4
  have hs4 := Nat.le_trans hs3 hb4.size
  clear hF
  have hF := hl4
  (repeat unfold Loc at hF)
  go_wp2_with fail
  refine bodyPost_ret (v := _) (by rw [results_cell_tmp Try.results41]; go_simp; rfl) rfl ?_
  rw [HP.out]
  exact take_zero (by (repeat first | refine below_put ?_ (by dsimp only; omega) _ | exact hbb4))
end Go.Proofs.Ytffehibdeogjeaa
