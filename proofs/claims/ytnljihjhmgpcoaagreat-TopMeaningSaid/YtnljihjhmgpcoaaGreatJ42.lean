/- Lemmas and contracts for the statement, joined into one text: RewMade, RewAll, RefEv. The conditions of each stand at its head. -/
import Derived.Test.YtnljihjhmgpcoaaGreatJ41
import Derived.Test.YtnljihjhmgpcoaaGreatJ1
import Derived.Test.YtnljihjhmgpcoaaGreatJ37
import Derived.Test.YtnljihjhmgpcoaaGreatJ35
import Derived.Test.YtnljihjhmgpcoaaGreatJ28
import Derived.Test.YtnljihjhmgpcoaaGreatJ2
import Derived.BigQuiet
namespace Go.Proofs.YtnljihjhmgpcoaaGreat
open Go Go.RowKit Go.ChangeShapes Go.WideShapes Go.ChangeAt Go.Deep
theorem rsame_any2 (q p : Qy) (hq : q.good) (A B C A' B' C' : Option Addr) (na ca nb cb nc cc na' ca' nb' cb' nc' cc' : Nat) (w : World) (h : QRd w q A B C na ca nb cb nc cc) (h' : QRd w p A' B' C' na' ca' nb' cb' nc' cc') :
  Calls Tryz.prog 59 #[.agg #[.int .u8 q.ag, .slice A na ca, .slice B nb cb, .bool q.jo, .slice C nc cc, .int .u8 q.wk, .int .i64 q.ws, .int .i64 q.we, .bool q.ky, .int .u8 q.la], .agg #[.int .u8 p.ag, .slice A' na' ca', .slice B' nb' cb', .bool p.jo, .slice C' nc' cc', .int .u8 p.wk, .int .i64 p.ws, .int .i64 p.we, .bool p.ky, .int .u8 p.la]] w (SomeBP w) := by
 have s1 : na ≤ 60 := by
  rw [← h.1.1]; cases ha : q.arg with
  | none => simp [opl]
  | some e => have := (hq.arg e ha).1.2.1; simpa [opl, flat_len] using this
 have s2 : nc ≤ 60 := by
  rw [← h.2.2.1]; cases ha : q.wh with
  | none => simp [opl]
  | some e => have := (hq.wh e ha).1.2.1; simpa [opl, flat_len] using this
 have HA := Lib.hid (fun W (hb : Below w.heap.size w W) => ndeq_any A A' ca ca' na na' _ _ W h.1.1 h'.1.1 s1 (h.1.2.2.2.grow hb) (h'.1.2.2.2.grow hb))
 have HC := Lib.hid (fun W (hb : Below w.heap.size w W) => ndeq_any C C' cc cc' nc nc' _ _ W h.2.2.1 h'.2.2.1 s2 (h.2.2.2.2.2.grow hb) (h'.2.2.2.2.2.grow hb))
 have hl0 := ((Loc.nil w).new [.int .u8 q.ag, .slice A na ca, .slice B nb cb, .bool q.jo, .slice C nc cc, .int .u8 q.wk, .int .i64 q.ws, .int .i64 q.we, .bool q.ky, .int .u8 q.la] 27).new [.int .u8 p.ag, .slice A' na' ca', .slice B' nb' cb', .bool p.jo, .slice C' nc' cc', .int .u8 p.wk, .int .i64 p.ws, .int .i64 p.we, .bool p.ky, .int .u8 p.la] 27
 rw [World.size_alloc] at hl0
 have hb0 : Below w.heap.size w ((w.alloc (.cells #[.int .u8 q.ag, .slice A na ca, .slice B nb cb, .bool q.jo, .slice C nc cc, .int .u8 q.wk, .int .i64 q.ws, .int .i64 q.we, .bool q.ky, .int .u8 q.la] 27)).alloc (.cells #[.int .u8 p.ag, .slice A' na' ca', .slice B' nb' cb', .bool p.jo, .slice C' nc' cc', .int .u8 p.wk, .int .i64 p.ws, .int .i64 p.we, .bool p.ky, .int .u8 p.la] 27)) := below_new (below_new (Below.refl _ _) _) _
 have hF := hl0
 (repeat unfold Loc at hF)
 clear h h' s1 s2
 go_enter Tryz.func59, Tryz.ntmps59
 go_wp2_with fail
 go_at_call 100
 refine (HA.out _ hb0).mono ?_
 rintro r x2 ⟨b1, rfl, hb2⟩
 replace hl0 := hl0.below hb2
 have hb3 := below_then hb0 hb2
 clear hF
 have hF := hl0
 (repeat unfold Loc at hF)
 cases b1
 ·go_wp2_with fail
  go_ret
  exact ⟨_, rfl, hb3⟩
 ·go_wp2_with fail
  go_at_call 100
  refine (HC.out _ hb3).mono ?_
  rintro r x3 ⟨b2, rfl, hb4⟩
  replace hl0 := hl0.below hb4
  have hb5 := below_then hb3 hb4
  clear hF
  have hF := hl0
  (repeat unfold Loc at hF)
  cases b2
  ·go_wp2_with fail
   go_ret
   exact ⟨_, rfl, hb5⟩
  ·go_wp2_with fail
   all_goals
    go_ret
    exact ⟨_, rfl, hb5⟩
def InB {α : Type} (lo hi : Nat) (A : Option Addr) (l : List α) : Prop := l ≠ [] → ∀ ad, A = some ad → lo ≤ ad.block ∧ ad.block < hi
theorem rd_set_in {α : Type} {enc : α → List Value} {sz lo hi g : Nat} {w : World} {A : Option Addr} {l : List α} (h : Rd enc sz w w.heap.size A l) (hi' : InB lo hi A l) (hg : g < lo ∨ hi ≤ g) (o : Nat) (u : Value) : Rd enc sz (w.setCell ⟨g, o, none⟩ u) (w.setCell ⟨g, o, none⟩ u).heap.size A l := fun hn => by
 obtain ⟨b, off, rfl, hb, hc⟩ := h hn
 have hne := hi' hn _ rfl
 simp only at hne
 refine ⟨b, off, rfl, by simpa [World.setCell] using hb, fun k x hx j v hv => (World.cell?_of_block (Below.heap_setCell _ _ _ _ (by simp only; omega))).trans (hc k x hx j v hv)⟩
structure QRdP (lo hi : Nat) (w : World) (q : Qy) (A B C : Option Addr) (na ca nb cb nc cc : Nat) : Prop where
 rd : QRd w q A B C na ca nb cb nc cc
 a : InB lo hi A (opl q.arg)
 b : InB lo hi B q.src
 c : InB lo hi C (opl q.wh)
theorem inB_of {α : Type} {enc : α → List Value} {sz lo : Nat} {w : World} {A : Option Addr} {l : List α} (h : Rd enc sz w w.heap.size A l) (hn : NewB lo A l) : InB lo w.heap.size A l := fun h0 ad had => ⟨hn h0 ad had, by
 obtain ⟨b, off, e, hb, _⟩ := h h0
 rw [had] at e
 obtain rfl := Option.some.inj e
 exact hb⟩
theorem QRdP.of {lo : Nat} {w : World} {q : Qy} {A B C : Option Addr} {na ca nb cb nc cc : Nat} (h : QRdN lo w q A B C na ca nb cb nc cc) : QRdP lo w.heap.size w q A B C na ca nb cb nc cc :=
 ⟨h.1, inB_of h.1.1.2.2.2 h.2.1, inB_of h.1.2.1.2.2.2 h.2.2.1, inB_of h.1.2.2.2.2.2 h.2.2.2⟩
theorem QRdP.grow {lo hi : Nat} {w w' : World} {q : Qy} {A B C : Option Addr} {na ca nb cb nc cc : Nat} (h : QRdP lo hi w q A B C na ca nb cb nc cc) (hb : Below w.heap.size w w') : QRdP lo hi w' q A B C na ca nb cb nc cc := ⟨h.rd.grow hb, h.a, h.b, h.c⟩
theorem QRdP.set {lo hi g : Nat} {w : World} {q : Qy} {A B C : Option Addr} {na ca nb cb nc cc : Nat} (h : QRdP lo hi w q A B C na ca nb cb nc cc) (hg : g < lo ∨ hi ≤ g) (o : Nat) (u : Value) : QRdP lo hi (w.setCell ⟨g, o, none⟩ u) q A B C na ca nb cb nc cc :=
 ⟨⟨⟨h.rd.1.1, h.rd.1.2.1, h.rd.1.2.2.1, rd_set_in h.rd.1.2.2.2 h.a hg o u⟩, ⟨h.rd.2.1.1, h.rd.2.1.2.1, h.rd.2.1.2.2.1, rd_set_in h.rd.2.1.2.2.2 h.b hg o u⟩, ⟨h.rd.2.2.1, h.rd.2.2.2.1, h.rd.2.2.2.2.1, rd_set_in h.rd.2.2.2.2.2 h.c hg o u⟩⟩, h.a, h.b, h.c⟩
theorem QRdP.out {lo hi base : Nat} {w : World} {q : Qy} {A B C : Option Addr} {na ca nb cb nc cc : Nat} (h : QRdP lo hi w q A B C na ca nb cb nc cc) (hb : base ≤ lo) : QRdN base w q A B C na ca nb cb nc cc :=
 ⟨h.rd, fun h0 ad had => Nat.le_trans hb (h.a h0 ad had).1, fun h0 ad had => Nat.le_trans hb (h.b h0 ad had).1, fun h0 ad had => Nat.le_trans hb (h.c h0 ad had).1⟩
theorem QRdP.nowh {lo hi : Nat} {w : World} {q : Qy} {A B C : Option Addr} {na ca nb cb nc cc : Nat} (h : QRdP lo hi w q A B C na ca nb cb nc cc) : QRdP lo hi w { q with wh := none } A B none na ca nb cb 0 0 :=
 ⟨⟨h.rd.1, h.rd.2.1, ⟨rfl, fun _ => rfl, Nat.le_refl _, Rd.nil⟩⟩, h.a, h.b, fun h0 => absurd rfl h0⟩
theorem QRdP.tum {lo hi : Nat} {w : World} {q : Qy} {A B C : Option Addr} {na ca nb cb nc cc : Nat} (h : QRdP lo hi w q A B C na ca nb cb nc cc) : QRdP lo hi w { q with wk := 1, we := 0 } A B C na ca nb cb nc cc := ⟨h.rd, h.a, h.b, h.c⟩
/-- No more windows to be made tumbling ones. -/
def tdone (p : Qy) : Prop := ¬ (p.wk = 2 ∧ p.ws = p.we)
theorem tdone_step {q p : Qy} (h : Qeq q p) (hd : tdone q) : tdone p := by
 have := h.win
 unfold tdone at *
 omega
def MadeP (q : Qy) (rule : Int) (w : World) (r : Ending) (w' : World) : Prop := ∃ p v, r = .returned (.tuple #[v, .int .i64 0]) ∧ p.good ∧ (Qeq q p ∧ (rule = 3 → tdone p)) ∧ QRes w.heap.size p v w' ∧ Below w.heap.size w w'
set_option maxHeartbeats 16000000 in
set_option maxRecDepth 100000 in
theorem rmade_any (q : Qy) (hq : q.good) (rule : Int) (hrule : 1 ≤ rule ∧ rule ≤ 3) (A B C : Option Addr) (na ca nb cb nc cc : Nat) (w : World) (h : QRd w q A B C na ca nb cb nc cc) :
  Calls Tryz.prog 58 #[.agg #[.int .u8 q.ag, .slice A na ca, .slice B nb cb, .bool q.jo, .slice C nc cc, .int .u8 q.wk, .int .i64 q.ws, .int .i64 q.we, .bool q.ky, .int .u8 q.la], .int .i64 rule] w (MadeP q rule w) := by
 have HTW := Lib.hid (fun W (hb : Below w.heap.size w W) => twin_any q hq A B C na ca nb cb nc cc W (h.grow hb))
 have HVL := Lib.hid (fun e (he : q.wh = some e) W (hb : Below w.heap.size w W) => fval_any e ⟨(hq.wh e he).1, (hq.wh e he).2.1⟩ C cc nc W (by have := h.2.2.1; rw [he] at this; simpa [opl, flat_len] using this) (by have := h.2.2.2.2.2.grow hb; rw [he] at this; exact this))
 have HNC := Lib.hid h.2.2.1; have HQ := Lib.hid hq
 have hl0 := ((Loc.nil w).new [.int .u8 q.ag, .slice A na ca, .slice B nb cb, .bool q.jo, .slice C nc cc, .int .u8 q.wk, .int .i64 q.ws, .int .i64 q.we, .bool q.ky, .int .u8 q.la] 27).new [.int .u8 0, .slice none 0 0, .slice none 0 0, .bool false, .slice none 0 0, .int .u8 0, .int .i64 0, .int .i64 0, .bool false, .int .u8 0] 27
 rw [World.size_alloc] at hl0
 have hb0 : Below w.heap.size w ((w.alloc (.cells #[.int .u8 q.ag, .slice A na ca, .slice B nb cb, .bool q.jo, .slice C nc cc, .int .u8 q.wk, .int .i64 q.ws, .int .i64 q.we, .bool q.ky, .int .u8 q.la] 27)).alloc (.cells #[.int .u8 0, .slice none 0 0, .slice none 0 0, .bool false, .slice none 0 0, .int .u8 0, .int .i64 0, .int .i64 0, .bool false, .int .u8 0] 27)) := below_new (below_new (Below.refl _ _) _) _
 obtain ⟨qb, hqb⟩ : ∃ qb, w.heap.size = qb := ⟨_, rfl⟩
 have HQB := Lib.hid hqb
 rw [hqb] at hl0
 have hF := hl0
 (repeat unfold Loc at hF)
 clear h hq
 go_enter Tryz.func58, Tryz.ntmps58
 (try simp only [hqb])
 go_wp2_with fail
 go_at_call 97
 refine (HTW.out _ hb0).mono ?_
 rintro r x2 ⟨v2, rfl, ⟨A2, B2, C2, na2, ca2, nb2, cb2, nc2, cc2, rfl, hqn⟩, hb2⟩
 have hp2 := QRdP.of hqn
 rw [World.size_alloc, World.size_alloc, hqb] at hp2
 replace hl0 := hl0.below hb2
 have hb3 := below_then hb0 hb2
 obtain ⟨ob, hob⟩ : ∃ ob, x2.heap.size = ob := ⟨_, rfl⟩
 have hqo : qb + 2 ≤ ob := by have := hl0.1; omega
 have hq1 : qb < ob := by omega
 have hq2 : qb + 1 < ob := by omega
 clear hF hb2 hb0 hqn
 have hl3 := hl0.new [.int .u8 q.ag, .slice A2 na2 ca2, .slice B2 nb2 cb2, .bool q.jo, .slice C2 nc2 cc2, .int .u8 q.wk, .int .i64 q.ws, .int .i64 q.we, .bool q.ky, .int .u8 q.la] 27
 rw [hob] at hl3 hp2
 have hp3 := hp2.grow (below_new (Below.refl x2.heap.size x2) (.cells #[.int .u8 q.ag, .slice A2 na2 ca2, .slice B2 nb2 cb2, .bool q.jo, .slice C2 nc2 cc2, .int .u8 q.wk, .int .i64 q.ws, .int .i64 q.we, .bool q.ky, .int .u8 q.la] 27))
 have hb4 : Below w.heap.size w (x2.alloc (.cells #[.int .u8 q.ag, .slice A2 na2 ca2, .slice B2 nb2 cb2, .bool q.jo, .slice C2 nc2 cc2, .int .u8 q.wk, .int .i64 q.ws, .int .i64 q.we, .bool q.ky, .int .u8 q.la] 27)) := below_new hb3 _
 go_upto_region 2 with (fail)
 generalize hX3 : x2.alloc (.cells #[.int .u8 q.ag, .slice A2 na2 ca2, .slice B2 nb2 cb2, .bool q.jo, .slice C2 nc2 cc2, .int .u8 q.wk, .int .i64 q.ws, .int .i64 q.we, .bool q.ky, .int .u8 q.la] 27) = X3 at hl3 hp3 hb4 ⊢
 have hs3 : X3.heap.size = ob + 1 := by rw [← hX3, World.size_alloc, hob]
 clear hX3 hl0 hp2 hb3 hob
 have hF := hl3
 (repeat unfold Loc at hF)
 rcases (by omega : rule = 1 ∨ rule = 2 ∨ rule = 3) with rfl | rfl | rfl
 ·have HQY := Lib.hid (fquery_any q HQ.out A2 B2 C2 na2 ca2 nb2 cb2 nc2 cc2 _ hp3.rd)
  go_wp2_with fail
  go_at_call 98
  refine HQY.out.mono ?_
  rintro r x5 ⟨p, v5, rfl, hpg, hpe, ⟨A5, B5, C5, na5, ca5, nb5, cb5, nc5, cc5, rfl, hq5⟩, hb5⟩
  have hp5 := QRdP.of hq5
  rw [hs3] at hp5
  have hl5 := hl3.below hb5
  have hb6 := below_then hb4 hb5
  clear hF
  have hF := hl5
  (repeat unfold Loc at hF)
  have HG := Lib.hid hpg; have HE := Lib.hid hpe
  clear hpg hpe hq5
  go_wp2_with fail
  refine bodyPost_ret (v := _) (by rw [results_cell_tmp Tryz.results58]; go_simp; rfl) rfl ?_
  refine ⟨p, _, rfl, HG.out, ⟨HE.out, fun h => absurd h (by decide)⟩, ⟨A5, B5, C5, na5, ca5, nb5, cb5, nc5, cc5, rfl, ?_⟩, ?_⟩
  ·refine QRdP.out (lo := ob + 1) (hi := x5.heap.size) ?_ (by rw [HQB.out]; omega)
   (repeat refine QRdP.set ?_ (.inl (by omega)) _ _)
   exact hp5
  ·(repeat refine below_put' ?_ (by rw [HQB.out]; omega) _ _)
   exact hb6
 ·obtain ⟨o, ho⟩ : ∃ o, q.wh = o := ⟨_, rfl⟩
  cases o with
  | none =>
   have hn0 : nc = 0 := by have := HNC.out; rw [ho] at this; exact this.symm
   subst hn0
   clear ho
   go_wp2_with fail
   refine bodyPost_ret (v := _) (by rw [results_cell_tmp Tryz.results58]; go_simp; rfl) rfl ?_
   refine ⟨q, _, rfl, HQ.out, ⟨Qeq.refl q, fun h => absurd h (by decide)⟩, ⟨A2, B2, _, na2, ca2, nb2, cb2, _, _, rfl, ?_⟩, ?_⟩
   ·refine QRdP.out (lo := qb + 2) (hi := ob) ?_ (by rw [HQB.out]; omega)
    (repeat refine QRdP.set ?_ (by first | exact .inl (Nat.lt_succ_self _) | exact .inr (Nat.le_refl _)) _ _)
    exact hp3
   ·(repeat refine below_put' ?_ (by rw [HQB.out]; omega) _ _)
    exact hb4
  | some e =>
   have hnc : 0 < nc := by have h1 := HNC.out; rw [ho] at h1; have h2 := e.size_pos; simp [opl, flat_len] at h1; omega
   have dn : ((nc : Int) == 0) = false := by simp; omega
   have dn' : (nc == 0) = false := by simp; omega
   have HV := Lib.hid (HVL.out e ho _ hb4)
   have HO := Lib.hid ho
   clear ho hnc
   go_wp2_with fail
   go_at_call 99
   refine HV.out.mono ?_
   rintro r x5 ⟨rfl, hb5⟩
   have hl5 := hl3.below hb5
   have hp5 := hp3.grow hb5
   have hb6 := below_then hb4 hb5
   clear hF
   have hF := hl5
   (repeat unfold Loc at hF)
   obtain ⟨cb, hcb⟩ : ∃ b, e.const = b := ⟨_, rfl⟩
   obtain ⟨X, hX⟩ : ∃ X, e.ev pt0 = X := ⟨_, rfl⟩
   rw [hcb, hX]
   have HCB := Lib.hid hcb; have HX := Lib.hid hX
   clear hcb hX
   cases cb
   ·go_wp2_with fail
    refine bodyPost_ret (v := _) (by rw [results_cell_tmp Tryz.results58]; go_simp; rfl) rfl ?_
    refine ⟨q, _, rfl, HQ.out, ⟨Qeq.refl q, fun h => absurd h (by decide)⟩, ⟨A2, B2, _, na2, ca2, nb2, cb2, _, _, rfl, ?_⟩, ?_⟩
    ·refine QRdP.out (lo := qb + 2) (hi := ob) ?_ (by rw [HQB.out]; omega)
     (repeat refine QRdP.set ?_ (by first | exact .inl (Nat.lt_succ_self _) | exact .inr (Nat.le_refl _)) _ _)
     exact hp5
    ·(repeat refine below_put' ?_ (by rw [HQB.out]; omega) _ _)
     exact hb6
   ·by_cases hx0 : X = 0
    ·have dx : (X != 0) = false := by simp [hx0]
     clear hx0
     go_wp2_with fail
     refine bodyPost_ret (v := _) (by rw [results_cell_tmp Tryz.results58]; go_simp; rfl) rfl ?_
     refine ⟨q, _, rfl, HQ.out, ⟨Qeq.refl q, fun h => absurd h (by decide)⟩, ⟨A2, B2, _, na2, ca2, nb2, cb2, _, _, rfl, ?_⟩, ?_⟩
     ·refine QRdP.out (lo := qb + 2) (hi := ob) ?_ (by rw [HQB.out]; omega)
      (repeat refine QRdP.set ?_ (by first | exact .inl (Nat.lt_succ_self _) | exact .inr (Nat.le_refl _)) _ _)
      exact hp5
     ·(repeat refine below_put' ?_ (by rw [HQB.out]; omega) _ _)
      exact hb6
    ·have dx : (X != 0) = true := by simp [hx0]
     have hd := drop_ok HQ.out HO.out HCB.out pt0 (by rw [HX.out]; exact hx0)
     have HD := Lib.hid hd
     clear hx0 hd
     go_wp2_with fail
     refine bodyPost_ret (v := _) (by rw [results_cell_tmp Tryz.results58]; go_simp; rfl) rfl ?_
     refine ⟨{ q with wh := none }, _, rfl, HD.out.1, ⟨HD.out.2, fun h => absurd h (by decide)⟩, ⟨A2, B2, _, na2, ca2, nb2, cb2, _, _, rfl, ?_⟩, ?_⟩
     ·refine QRdP.out (lo := qb + 2) (hi := ob) ?_ (by rw [HQB.out]; omega)
      (repeat refine QRdP.set ?_ (by first | exact .inl (Nat.lt_succ_self _) | exact .inr (Nat.le_refl _)) _ _)
      exact hp5.nowh
     ·(repeat refine below_put' ?_ (by rw [HQB.out]; omega) _ _)
      exact hb6
 ·have hl4 := hl3.new [.int .u8 q.wk, .int .i64 q.ws, .int .i64 q.we] 25
  rw [hs3] at hl4
  have hp4 := hp3.grow (below_new (Below.refl X3.heap.size X3) (.cells #[.int .u8 q.wk, .int .i64 q.ws, .int .i64 q.we] 25))
  have hb5 := below_new hb4 (.cells #[.int .u8 q.wk, .int .i64 q.ws, .int .i64 q.we] 25)
  go_upto_region 14 with (fail)
  generalize hX4 : X3.alloc (.cells #[.int .u8 q.wk, .int .i64 q.ws, .int .i64 q.we] 25) = X4 at hl4 hp4 hb5 ⊢
  have hs4 : X4.heap.size = ob + 1 + 1 := by rw [← hX4, World.size_alloc, hs3]
  clear hX4 hF hl3 hp3 hb4
  have hF := hl4
  (repeat unfold Loc at hF)
  by_cases hk : q.wk = 2
  ·by_cases hs : q.ws = q.we
   ·have d1 : (q.wk == 2) = true := by simp [hk]
    have d2 : (q.ws == q.we) = true := by simp [hs]
    have HT := Lib.hid (tum_ok HQ.out hk hs)
    clear hk hs
    go_wp2_with fail
    refine bodyPost_ret (v := _) (by rw [results_cell_tmp Tryz.results58]; go_simp; rfl) rfl ?_
    refine ⟨{ q with wk := 1, we := 0 }, _, rfl, HT.out.1, ⟨HT.out.2, fun _ h => by have h1 : (1 : Int) = 2 := h.1; exact absurd h1 (by decide)⟩, ⟨A2, B2, _, na2, ca2, nb2, cb2, _, _, rfl, ?_⟩, ?_⟩
    ·refine QRdP.out (lo := qb + 2) (hi := ob) ?_ (by rw [HQB.out]; omega)
     (repeat refine QRdP.set ?_ (by first | exact .inl (Nat.lt_succ_self _) | exact .inr (Nat.le_refl _)) _ _)
     exact hp4.tum
    ·(repeat refine below_put' ?_ (by rw [HQB.out]; omega) _ _)
     exact hb5
   ·have d1 : (q.wk == 2) = true := by simp [hk]
    have d2 : (q.ws == q.we) = false := by simp [hs]
    have HH := Lib.hid hs
    clear hk hs
    go_wp2_with fail
    refine bodyPost_ret (v := _) (by rw [results_cell_tmp Tryz.results58]; go_simp; rfl) rfl ?_
    refine ⟨q, _, rfl, HQ.out, ⟨Qeq.refl q, fun _ h => HH.out h.2⟩, ⟨A2, B2, _, na2, ca2, nb2, cb2, _, _, rfl, ?_⟩, ?_⟩
    ·refine QRdP.out (lo := qb + 2) (hi := ob) ?_ (by rw [HQB.out]; omega)
     (repeat refine QRdP.set ?_ (by first | exact .inl (Nat.lt_succ_self _) | exact .inr (Nat.le_refl _)) _ _)
     exact hp4
    ·(repeat refine below_put' ?_ (by rw [HQB.out]; omega) _ _)
     exact hb5
  ·have d1 : (q.wk == 2) = false := by simp [hk]
   have HH := Lib.hid hk
   clear hk
   go_wp2_with fail
   refine bodyPost_ret (v := _) (by rw [results_cell_tmp Tryz.results58]; go_simp; rfl) rfl ?_
   refine ⟨q, _, rfl, HQ.out, ⟨Qeq.refl q, fun _ h => HH.out h.1⟩, ⟨A2, B2, _, na2, ca2, nb2, cb2, _, _, rfl, ?_⟩, ?_⟩
   ·refine QRdP.out (lo := qb + 2) (hi := ob) ?_ (by rw [HQB.out]; omega)
    (repeat refine QRdP.set ?_ (by first | exact .inl (Nat.lt_succ_self _) | exact .inr (Nat.le_refl _)) _ _)
    exact hp4
   ·(repeat refine below_put' ?_ (by rw [HQB.out]; omega) _ _)
    exact hb5
theorem results_cell_tmp2 {fn : Func} {p u v : Tmp} {ty : TypeId} (h : fn.results = #[.cell p ty, .tmp u, .tmp v]) (tmps : Array Value) (P : Program) (w : World) :
  (results fn tmps).run P w =
   ((asAddr (tmps.getD p undef)).run P w).andThen fun a w₁ => ((loadVar ty a).run P w₁).andThen fun x w₂ => .ok (.tuple #[x, tmps.getD u undef, tmps.getD v undef]) w₂ := by
 simp only [results, h]
 simp [Sem.run_bind, Result.andThen]
def AppP (q : Qy) (rule : Int) (w : World) (r : Ending) (w' : World) : Prop := ∃ p v b, r = .returned (.tuple #[v, .bool b, .int .i64 0]) ∧ p.good ∧ (Qeq q p ∧ (rule = 3 → tdone p)) ∧ QRes w.heap.size p v w' ∧ Below w.heap.size w w'
set_option maxHeartbeats 16000000 in
set_option maxRecDepth 100000 in
theorem rapply_any (q : Qy) (hq : q.good) (rule : Int) (hrule : 1 ≤ rule ∧ rule ≤ 3) (A B C : Option Addr) (na ca nb cb nc cc : Nat) (w : World) (h : QRd w q A B C na ca nb cb nc cc) :
  Calls Tryz.prog 26 #[.agg #[.int .u8 q.ag, .slice A na ca, .slice B nb cb, .bool q.jo, .slice C nc cc, .int .u8 q.wk, .int .i64 q.ws, .int .i64 q.we, .bool q.ky, .int .u8 q.la], .int .i64 rule] w (AppP q rule w) := by
 have HCK := Lib.hid (fun W (hb : Below w.heap.size w W) => qcheck_any q hq A B C na ca nb cb nc cc W (h.grow hb))
 have HMD := Lib.hid (fun W (hb : Below w.heap.size w W) => rmade_any q hq rule hrule A B C na ca nb cb nc cc W (h.grow hb))
 have HSM := Lib.hid (fun p A' B' C' na' ca' nb' cb' nc' cc' W (hb : Below w.heap.size w W) (h' : QRd W p A' B' C' na' ca' nb' cb' nc' cc') => rsame_any2 q p hq A B C A' B' C' na ca nb cb nc cc na' ca' nb' cb' nc' cc' W (h.grow hb) h')
 have hl0 := ((Loc.nil w).new [.int .u8 q.ag, .slice A na ca, .slice B nb cb, .bool q.jo, .slice C nc cc, .int .u8 q.wk, .int .i64 q.ws, .int .i64 q.we, .bool q.ky, .int .u8 q.la] 27).new [.int .u8 0, .slice none 0 0, .slice none 0 0, .bool false, .slice none 0 0, .int .u8 0, .int .i64 0, .int .i64 0, .bool false, .int .u8 0] 27
 rw [World.size_alloc] at hl0
 have hb0 : Below w.heap.size w ((w.alloc (.cells #[.int .u8 q.ag, .slice A na ca, .slice B nb cb, .bool q.jo, .slice C nc cc, .int .u8 q.wk, .int .i64 q.ws, .int .i64 q.we, .bool q.ky, .int .u8 q.la] 27)).alloc (.cells #[.int .u8 0, .slice none 0 0, .slice none 0 0, .bool false, .slice none 0 0, .int .u8 0, .int .i64 0, .int .i64 0, .bool false, .int .u8 0] 27)) := below_new (below_new (Below.refl _ _) _) _
 obtain ⟨qb, hqb⟩ : ∃ qb, w.heap.size = qb := ⟨_, rfl⟩
 have HQB := Lib.hid hqb
 rw [hqb] at hl0
 have hF := hl0
 (repeat unfold Loc at hF)
 have r1 : decide (rule < 1) = false := by simp; omega
 have r2 : decide (3 < rule) = false := by simp; omega
 clear h hq hrule
 go_enter Tryz.func26, Tryz.ntmps26
 (try simp only [hqb])
 go_wp2_with fail
 go_at_call 21
 refine (HCK.out _ hb0).mono ?_
 rintro r x2 ⟨rfl, hb2⟩
 replace hl0 := hl0.below hb2
 have hb3 := below_then hb0 hb2
 clear hF hb2 hb0
 have hF := hl0
 (repeat unfold Loc at hF)
 go_wp2_with fail
 go_at_call 58
 refine (HMD.out _ hb3).mono ?_
 rintro r x3 ⟨p, v3, rfl, hpg, hpe, ⟨A2, B2, C2, na2, ca2, nb2, cb2, nc2, cc2, rfl, hqn⟩, hb4⟩
 have hp3 := QRdP.of hqn
 have hx2 : qb + 2 ≤ x2.heap.size := by have := hl0.1; omega
 replace hl0 := hl0.below hb4
 have hb5 := below_then hb3 hb4
 have HG := Lib.hid hpg; have HE := Lib.hid hpe
 clear hF hqn hpg hpe
 have hl3 := hl0.new [.int .u8 p.ag, .slice A2 na2 ca2, .slice B2 nb2 cb2, .bool p.jo, .slice C2 nc2 cc2, .int .u8 p.wk, .int .i64 p.ws, .int .i64 p.we, .bool p.ky, .int .u8 p.la] 27
 have hp4 := hp3.grow (below_new (Below.refl x3.heap.size x3) (.cells #[.int .u8 p.ag, .slice A2 na2 ca2, .slice B2 nb2 cb2, .bool p.jo, .slice C2 nc2 cc2, .int .u8 p.wk, .int .i64 p.ws, .int .i64 p.we, .bool p.ky, .int .u8 p.la] 27))
 have hb6 := below_new hb5 (.cells #[.int .u8 p.ag, .slice A2 na2 ca2, .slice B2 nb2 cb2, .bool p.jo, .slice C2 nc2 cc2, .int .u8 p.wk, .int .i64 p.ws, .int .i64 p.we, .bool p.ky, .int .u8 p.la] 27)
 obtain ⟨ob, hob⟩ : ∃ ob, x3.heap.size = ob := ⟨_, rfl⟩
 have hqo : qb + 2 ≤ ob := by have := hl0.1; omega
 go_upto_region 7 with (fail)
 generalize hX3 : x3.alloc (.cells #[.int .u8 p.ag, .slice A2 na2 ca2, .slice B2 nb2 cb2, .bool p.jo, .slice C2 nc2 cc2, .int .u8 p.wk, .int .i64 p.ws, .int .i64 p.we, .bool p.ky, .int .u8 p.la] 27) = X3 at hl3 hp4 hb6 ⊢
 rw [hob] at hl3 hp4
 have hs3 : X3.heap.size = ob + 1 := by rw [← hX3, World.size_alloc, hob]
 clear hX3 hl0 hb5 hb4 hb3 hp3 hob
 have hE0 : Env w [(ob, [.int .u8 p.ag, .slice A2 na2 ca2, .slice B2 nb2 cb2, .bool p.jo, .slice C2 nc2 cc2, .int .u8 p.wk, .int .i64 p.ws, .int .i64 p.we, .bool p.ky, .int .u8 p.la]), (qb, [.int .u8 q.ag, .slice A na ca, .slice B nb cb, .bool q.jo, .slice C nc cc, .int .u8 q.wk, .int .i64 q.ws, .int .i64 q.we, .bool q.ky, .int .u8 q.la])] X3 := ⟨hb6, hl3.1, hl3.2.1, hl3.2.2.1, (Loc.swap hl3.2.2.2).1, (Loc.swap hl3.2.2.2).2.1, (Loc.swap hl3.2.2.2).2.2.1, trivial⟩
 go_wp2_with fail
 refine hB (Env w [(ob, [.int .u8 p.ag, .slice A2 na2 ca2, .slice B2 nb2 cb2, .bool p.jo, .slice C2 nc2 cc2, .int .u8 p.wk, .int .i64 p.ws, .int .i64 p.we, .bool p.ky, .int .u8 p.la]), (qb, [.int .u8 q.ag, .slice A na ca, .slice B nb cb, .bool q.jo, .slice C nc cc, .int .u8 q.wk, .int .i64 q.ws, .int .i64 q.we, .bool q.ky, .int .u8 q.la])]) (fun hHeld => ?_) (hS := Env.drew hE0)
 refine hW 0 ?_; refine hW 1 ?_; refine hW 2 ?_
 refine hC 3 fun K hK => ?_; go_simp
 go_at_call 59
 refine (HSM.out p A2 B2 C2 na2 ca2 nb2 cb2 nc2 cc2 _ hHeld.1 (hp4.grow (Below.drew (Below.refl _ _))).rd).mono ?_
 rintro r x5 ⟨b5, rfl, hb7⟩
 have hl5 := (hl3.drew).below hb7
 have hp5 := (hp4.grow (Below.drew (Below.refl _ _))).grow hb7
 have hs5 := hb7.size
 rw [World.size_drew, hs3] at hs5
 have hF := hl5
 (repeat unfold Loc at hF)
 (refine hKp hK (fun hHeld => ?_) (Env.step hb7 hHeld); clear hK K)
 refine hT 4 ?_
 refine hC 5 fun K hK => ?_; go_simp
 (refine hKp hK (fun hHeld => ?_) ((by have h0 := hHeld; have hne : ∀ z ∈ ([(ob, [.int .u8 p.ag, .slice A2 na2 ca2, .slice B2 nb2 cb2, .bool p.jo, .slice C2 nc2 cc2, .int .u8 p.wk, .int .i64 p.ws, .int .i64 p.we, .bool p.ky, .int .u8 p.la]), (qb, [.int .u8 q.ag, .slice A na ca, .slice B nb cb, .bool q.jo, .slice C nc cc, .int .u8 q.wk, .int .i64 q.ws, .int .i64 q.we, .bool q.ky, .int .u8 q.la])] : List (Nat × List Value)), z.1 ≠ qb + 1 := (by intro z hz; simp only [List.mem_cons, List.not_mem_nil, or_false] at hz; rcases hz with rfl | rfl <;> (simp only; omega)); (repeat refine Env.far (p := ⟨qb + 1, _, none⟩) ?_ (by rw [HQB.out]; exact Nat.le_succ _) hne _); exact h0)); clear hK K)
 refine hT 6 ?_; refine hT 7 ?_
 refine hD ?_
 have hb8 := hHeld.1
 go_wp2_with fail
 refine bodyPost_ret (v := _) (by rw [results_cell_tmp2 Tryz.results26]; go_simp; rfl) rfl ?_
 refine ⟨p, _, _, rfl, HG.out, HE.out, ⟨A2, B2, C2, na2, ca2, nb2, cb2, nc2, cc2, rfl, ?_⟩, hb8⟩
 refine QRdP.out (lo := x2.heap.size) (hi := ob) ?_ (by rw [HQB.out]; omega)
 (repeat refine QRdP.set ?_ (.inl (by omega)) _ _)
 exact hp5
theorem QRdX.ofN {qb base : Nat} {w : World} {q : Qy} {A B C : Option Addr} {na ca nb cb nc cc : Nat} (h : QRdN base w q A B C na ca nb cb nc cc) (hq : qb + 2 ≤ base) : QRdX qb w q A B C na ca nb cb nc cc := by
 have key : ∀ {α : Type} {A : Option Addr} {l : List α}, NewB base A l → (l ≠ [] → ∀ ad, A = some ad → ad.block ≠ qb ∧ ad.block ≠ qb + 1) := fun hn h0 ad had => by
  have := hn h0 ad had; omega
 exact ⟨⟨h.1.1.1, h.1.1.2.1, h.1.1.2.2.1, h.1.1.2.2.2, key h.2.1⟩, ⟨h.1.2.1.1, h.1.2.1.2.1, h.1.2.1.2.2.1, h.1.2.1.2.2.2, key h.2.2.1⟩, ⟨h.1.2.2.1, h.1.2.2.2.1, h.1.2.2.2.2.1, h.1.2.2.2.2.2, key h.2.2.2⟩⟩
theorem QRdX.low {qb : Nat} {w : World} {q : Qy} {A B C : Option Addr} {na ca nb cb nc cc : Nat} (h : QRd w q A B C na ca nb cb nc cc) (hq : w.heap.size ≤ qb) : QRdX qb w q A B C na ca nb cb nc cc := by
 have key : ∀ {α : Type} {enc : α → List Value} {sz : Nat} {A : Option Addr} {l : List α}, Rd enc sz w w.heap.size A l → RdX enc sz qb w A l := fun hr => ⟨hr, fun h0 ad had => by
  obtain ⟨b, off, e, hb, _⟩ := hr h0
  rw [had] at e
  obtain rfl := Option.some.inj e
  simp only; omega⟩
 exact ⟨⟨h.1.1, h.1.2.1, h.1.2.2.1, key h.1.2.2.2⟩, ⟨h.2.1.1, h.2.1.2.1, h.2.1.2.2.1, key h.2.1.2.2.2⟩, ⟨h.2.2.1, h.2.2.2.1, h.2.2.2.2.1, key h.2.2.2.2.2⟩⟩
theorem loc_put10 {w : World} {b : Nat} {c0 c1 c2 c3 c4 c5 c6 c7 c8 c9 : Value} {l : List (Nat × List Value)} (h : Loc w ((b, [c0, c1, c2, c3, c4, c5, c6, c7, c8, c9]) :: l)) (hne : ∀ z ∈ l, z.1 ≠ b) (v0 v1 v2 v3 v4 v5 v6 v7 v8 v9 : Value) :
  Loc ((((((((((w.setCell ⟨b, 0, none⟩ v0).setCell ⟨b, 1, none⟩ v1).setCell ⟨b, 2, none⟩ v2).setCell ⟨b, 3, none⟩ v3).setCell ⟨b, 4, none⟩ v4).setCell ⟨b, 5, none⟩ v5).setCell ⟨b, 6, none⟩ v6).setCell ⟨b, 7, none⟩ v7).setCell ⟨b, 8, none⟩ v8).setCell ⟨b, 9, none⟩ v9) ((b, [v0, v1, v2, v3, v4, v5, v6, v7, v8, v9]) :: l) :=
 (((((((((h.put hne 0 v0 (by simp)).put hne 1 v1 (by simp)).put hne 2 v2 (by simp)).put hne 3 v3 (by simp)).put hne 4 v4 (by simp)).put hne 5 v5 (by simp)).put hne 6 v6 (by simp)).put hne 7 v7 (by simp)).put hne 8 v8 (by simp)).put hne 9 v9 (by simp)
/-- What stands between two rules; D tells whether the third one has been made. -/
def AllS (q : Qy) (qb : Nat) (D : Prop) (w wr : World) : Prop := ∃ (p : Qy) (A B C : Option Addr) (na ca nb cb nc cc : Nat), p.good ∧ (Qeq q p ∧ (D → tdone p)) ∧ QRdX (qb + 1) wr p A B C na ca nb cb nc cc ∧ Loc wr [(qb + 2, [.int .u8 p.ag, .slice A na ca, .slice B nb cb, .bool p.jo, .slice C nc cc, .int .u8 p.wk, .int .i64 p.ws, .int .i64 p.we, .bool p.ky, .int .u8 p.la]), (qb + 1, [.int .u8 0, .slice none 0 0, .slice none 0 0, .bool false, .slice none 0 0, .int .u8 0, .int .i64 0, .int .i64 0, .bool false, .int .u8 0])] ∧ Below w.heap.size w wr
theorem AllS.imp {q : Qy} {qb : Nat} {D E : Prop} {w wr : World} (h : AllS q qb D w wr) (hd : E → D) : AllS q qb E w wr := by
 obtain ⟨p, A, B, C, na, ca, nb, cb, nc, cc, h1, ⟨h2, h3⟩, h4⟩ := h
 exact ⟨p, A, B, C, na, ca, nb, cb, nc, cc, h1, ⟨h2, fun e => h3 (hd e)⟩, h4⟩
def RAllP (q : Qy) (w : World) (r : Ending) (w' : World) : Prop := ∃ (p : Qy) (v : Value) (A B C : Option Addr) (na ca nb cb nc cc : Nat), r = .returned (.tuple #[v, .int .i64 0]) ∧ p.good ∧ (Qeq q p ∧ tdone p) ∧ v = .agg #[.int .u8 p.ag, .slice A na ca, .slice B nb cb, .bool p.jo, .slice C nc cc, .int .u8 p.wk, .int .i64 p.ws, .int .i64 p.we, .bool p.ky, .int .u8 p.la] ∧ QRd w' p A B C na ca nb cb nc cc ∧ Below w.heap.size w w'
set_option maxHeartbeats 16000000 in
set_option maxRecDepth 100000 in
theorem rall_any (q : Qy) (hq : q.good) (A B C : Option Addr) (na ca nb cb nc cc : Nat) (w : World) (h : QRd w q A B C na ca nb cb nc cc) :
  Calls Tryz.prog 9 #[.agg #[.int .u8 q.ag, .slice A na ca, .slice B nb cb, .bool q.jo, .slice C nc cc, .int .u8 q.wk, .int .i64 q.ws, .int .i64 q.we, .bool q.ky, .int .u8 q.la]] w (RAllP q w) := by
 have hl0 := (((Loc.nil w).new [.int .u8 q.ag, .slice A na ca, .slice B nb cb, .bool q.jo, .slice C nc cc, .int .u8 q.wk, .int .i64 q.ws, .int .i64 q.we, .bool q.ky, .int .u8 q.la] 27).new [.int .u8 0, .slice none 0 0, .slice none 0 0, .bool false, .slice none 0 0, .int .u8 0, .int .i64 0, .int .i64 0, .bool false, .int .u8 0] 27).new [.int .u8 q.ag, .slice A na ca, .slice B nb cb, .bool q.jo, .slice C nc cc, .int .u8 q.wk, .int .i64 q.ws, .int .i64 q.we, .bool q.ky, .int .u8 q.la] 27
 rw [World.size_alloc, World.size_alloc] at hl0
 have hb0 : Below w.heap.size w (((w.alloc (.cells #[.int .u8 q.ag, .slice A na ca, .slice B nb cb, .bool q.jo, .slice C nc cc, .int .u8 q.wk, .int .i64 q.ws, .int .i64 q.we, .bool q.ky, .int .u8 q.la] 27)).alloc (.cells #[.int .u8 0, .slice none 0 0, .slice none 0 0, .bool false, .slice none 0 0, .int .u8 0, .int .i64 0, .int .i64 0, .bool false, .int .u8 0] 27)).alloc (.cells #[.int .u8 q.ag, .slice A na ca, .slice B nb cb, .bool q.jo, .slice C nc cc, .int .u8 q.wk, .int .i64 q.ws, .int .i64 q.we, .bool q.ky, .int .u8 q.la] 27)) := below_new (below_new (below_new (Below.refl _ _) _) _) _
 have hS0 : AllS q w.heap.size (1 ≤ 0) w (((w.alloc (.cells #[.int .u8 q.ag, .slice A na ca, .slice B nb cb, .bool q.jo, .slice C nc cc, .int .u8 q.wk, .int .i64 q.ws, .int .i64 q.we, .bool q.ky, .int .u8 q.la] 27)).alloc (.cells #[.int .u8 0, .slice none 0 0, .slice none 0 0, .bool false, .slice none 0 0, .int .u8 0, .int .i64 0, .int .i64 0, .bool false, .int .u8 0] 27)).alloc (.cells #[.int .u8 q.ag, .slice A na ca, .slice B nb cb, .bool q.jo, .slice C nc cc, .int .u8 q.wk, .int .i64 q.ws, .int .i64 q.we, .bool q.ky, .int .u8 q.la] 27)) :=
  ⟨q, A, B, C, na, ca, nb, cb, nc, cc, hq, ⟨Qeq.refl q, fun h => absurd h (by decide)⟩, (QRdX.low h (Nat.le_succ _)).grow (by exact ⟨hb0.os, hb0.tape, hb0.output, hb0.size, hb0.block⟩), ⟨hl0.1, hl0.2.1, hl0.2.2.1, hl0.2.2.2.1, hl0.2.2.2.2.1, hl0.2.2.2.2.2.1, trivial⟩, hb0⟩
 obtain ⟨qb, hqb⟩ : ∃ qb, w.heap.size = qb := ⟨_, rfl⟩
 have HQB := Lib.hid hqb
 rw [hqb] at hS0
 clear h hq hl0 hb0
 go_enter Tryz.func9, Tryz.ntmps9
 (try simp only [hqb])
 go_wp2_with fail
 (try simp only [HQB.out])
 go_loopw [11] (fun i wr => ∃ k : Nat, k ≤ 20 ∧ i = .int .i64 k ∧ AllS q qb (1 ≤ k) w wr) (fun i _ => 20 - (intOf i).toNat)
 case atStart => exact ⟨0, by omega, rfl, hS0⟩
 case round =>
  obtain ⟨k, hk, rfl, hS⟩ := hrel
  clear hS0 hqb
  by_cases hlt : k < 20
  ·have d1 : decide ((k : Int) < 20) = true := by simp; omega
   have d1' : decide (k < 20) = true := by simp [hlt]
   have e1 : IntKind.i64.wrap ((k : Int) + 1) = (k : Int) + 1 := IntWalk.i64_in _ (by omega)
   have HL := Lib.hid hlt; have HS := Lib.hid hS
   obtain ⟨wo, rfl⟩ : ∃ x, x = wr := ⟨_, rfl⟩
   clear hlt hS
   go_wp2_with fail
   go_loopw [5, 6] (fun ag i wr => ∃ (b : Bool) (j : Nat), ag = .bool b ∧ (1 ≤ j ∧ j ≤ 4) ∧ i = .int .i64 j ∧ AllS q qb (4 ≤ j ∨ 1 ≤ k) w wr) (fun _ i _ => 4 - (intOf i).toNat)
   case atStart => exact ⟨false, 1, rfl, by omega, rfl, HS.out.imp (fun h => by omega)⟩
   case round =>
    obtain ⟨b, j, rfl, hj, rfl, hS⟩ := hrel
    by_cases hj3 : j ≤ 3
    ·have d2 : decide ((j : Int) ≤ 3) = true := by simp; omega
     have d2' : decide (j ≤ 3) = true := by simp [hj3]
     have e2 : IntKind.i64.wrap ((j : Int) + 1) = (j : Int) + 1 := IntWalk.i64_in _ (by omega)
     obtain ⟨p, A, B, C, na, ca, nb, cb, nc, cc, hpg, hpe, hx, hl, hb⟩ := hS
     have HAP := Lib.hid (rapply_any p hpg (j : Int) (by omega) A B C na ca nb cb nc cc wr hx.out)
     have HJ := Lib.hid hj3; have HPE := Lib.hid hpe; have HB := Lib.hid hb; have HJ1 := Lib.hid hj
     have hF := hl
     (repeat unfold Loc at hF)
     clear hpg hpe hx hj3 hb hj
     go_wp2_with fail
     go_at_call 26
     refine HAP.out.mono ?_
     rintro r x5 ⟨p2, v2, b2, rfl, hg2, he2, ⟨A2, B2, C2, na2, ca2, nb2, cb2, nc2, cc2, rfl, hqn⟩, hb5⟩
     have hw : qb + 3 ≤ wr.heap.size := by have := hl.1; omega
     have hx5 := QRdX.ofN (qb := qb + 1) hqn (by omega)
     have hl5 := hl.below hb5
     have hb6 := below_then HB.out hb5
     have hl6 := hl5.old (.cells #[.int .u8 p2.ag, .slice A2 na2 ca2, .slice B2 nb2 cb2, .bool p2.jo, .slice C2 nc2 cc2, .int .u8 p2.wk, .int .i64 p2.ws, .int .i64 p2.we, .bool p2.ky, .int .u8 p2.la] 27)
     have hx6 := hx5.grow (below_new (Below.refl x5.heap.size x5) (.cells #[.int .u8 p2.ag, .slice A2 na2 ca2, .slice B2 nb2 cb2, .bool p2.jo, .slice C2 nc2 cc2, .int .u8 p2.wk, .int .i64 p2.ws, .int .i64 p2.we, .bool p2.ky, .int .u8 p2.la] 27))
     have hb7 := below_new hb6 (.cells #[.int .u8 p2.ag, .slice A2 na2 ca2, .slice B2 nb2 cb2, .bool p2.jo, .slice C2 nc2 cc2, .int .u8 p2.wk, .int .i64 p2.ws, .int .i64 p2.we, .bool p2.ky, .int .u8 p2.la] 27)
     have hn7 := (Loc.nil x5).new [.int .u8 p2.ag, .slice A2 na2 ca2, .slice B2 nb2 cb2, .bool p2.jo, .slice C2 nc2 cc2, .int .u8 p2.wk, .int .i64 p2.ws, .int .i64 p2.we, .bool p2.ky, .int .u8 p2.la] 27
     obtain ⟨xb, hxb⟩ : ∃ xb, x5.heap.size = xb := ⟨_, rfl⟩
     have hxq : qb + 3 ≤ xb := by have := hb5.size; omega
     have HG2 := Lib.hid hg2; have HE2 := Lib.hid he2
     clear hF hg2 he2 hqn HAP
     go_upto_region 9 with (fail)
     generalize hX6 : x5.alloc (.cells #[.int .u8 p2.ag, .slice A2 na2 ca2, .slice B2 nb2 cb2, .bool p2.jo, .slice C2 nc2 cc2, .int .u8 p2.wk, .int .i64 p2.ws, .int .i64 p2.we, .bool p2.ky, .int .u8 p2.la] 27) = X6 at hl6 hx6 hb7 hn7 ⊢
     rw [hxb] at hn7
     have hs6 : X6.heap.size = xb + 1 := by rw [← hX6, World.size_alloc, hxb]
     clear hX6 hl5 hb6 hb5 hx5 hl hxb
     have hF := hl6
     (repeat unfold Loc at hF)
     have hG := hn7
     (repeat unfold Loc at hG)
     cases b
     all_goals
      go_wp2_with fail
      go_roundw
      case rel =>
       refine ⟨_, j + 1, rfl, by have := HJ.out; have := HJ1.out; omega, by go_num, p2, A2, B2, C2, na2, ca2, nb2, cb2, nc2, cc2, HG2.out, ⟨Qeq.trans HPE.out.1 HE2.out.1, fun h => by have h' : 4 ≤ j + 1 ∨ 1 ≤ k := h; rcases (by have := HJ.out; clear h; omega : j = 3 ∨ 1 ≤ k) with h3 | h3; exact HE2.out.2 (by omega); exact tdone_step HE2.out.1 (HPE.out.2 (.inr h3))⟩, ?_, loc_put10 hl6 (by intro z hz; rw [List.mem_singleton] at hz; subst hz; simp only; omega) _ _ _ _ _ _ _ _ _ _, ?_⟩
       ·(repeat refine QRdX.set ?_ (.inr rfl) _ _)
        exact hx6
       ·(repeat refine below_put' ?_ (by rw [HQB.out]; omega) _ _)
        exact hb7
      case measure => have := HJ.out; simp [intOf]; omega
    ·have d2 : decide ((j : Int) ≤ 3) = false := by simp; omega
     have d2' : decide (j ≤ 3) = false := by simp; omega
     have HS2 := Lib.hid hS; have HJ4 := Lib.hid hj3
     clear hS hj3
     cases b
     ·obtain ⟨p, A, B, C, na, ca, nb, cb, nc, cc, hpg, hpe, hx, hl, hb⟩ := HS2.out
      have HPG := Lib.hid hpg; have HPE := Lib.hid hpe
      have hF := hl
      (repeat unfold Loc at hF)
      clear hpg hpe HS2
      go_wp2_with fail
      refine bodyPost_ret (v := _) (by rw [results_cell_tmp Tryz.results9]; go_simp; rfl) rfl ?_
      refine ⟨p, _, A, B, C, na, ca, nb, cb, nc, cc, rfl, HPG.out, ⟨HPE.out.1, HPE.out.2 (.inl (by have := HJ4.out; omega))⟩, rfl, ?_, ?_⟩
      ·refine QRdX.out (qb := qb + 1) ?_
       (repeat refine QRdX.set ?_ (.inl rfl) _ _)
       exact hx
      ·(repeat refine below_put' ?_ (by rw [HQB.out]; omega) _ _)
       exact hb
     ·go_wp2_with fail
      go_roundw
      case rel => exact ⟨k + 1, HL.out, by go_num, HS2.out.imp (fun _ => .inl (by have := HJ4.out; omega))⟩
      case measure => have := HL.out; simp [intOf]; omega
  ·obtain rfl : k = 20 := by omega
   obtain ⟨p, A, B, C, na, ca, nb, cb, nc, cc, hpg, hpe, hx, hl, hb⟩ := hS
   have HPG := Lib.hid hpg; have HPE := Lib.hid hpe
   have hF := hl
   (repeat unfold Loc at hF)
   clear hpg hpe
   go_wp2_with fail
   refine bodyPost_ret (v := _) (by rw [results_cell_tmp Tryz.results9]; go_simp; rfl) rfl ?_
   refine ⟨p, _, A, B, C, na, ca, nb, cb, nc, cc, rfl, HPG.out, ⟨HPE.out.1, HPE.out.2 (by omega)⟩, rfl, ?_, ?_⟩
   ·refine QRdX.out (qb := qb + 1) ?_
    (repeat refine QRdX.set ?_ (.inl rfl) _ _)
    exact hx
   ·(repeat refine below_put' ?_ (by rw [HQB.out]; omega) _ _)
    exact hb
end Go.Proofs.YtnljihjhmgpcoaaGreat
namespace Go.Proofs.YtnljihjhmgpcoaaGreat
open Go.RowKit Go.ChangeShapes Go.WideShapes Go.ChangeAt Go.Deep
set_option maxHeartbeats 4000000 in
theorem evalid_any (e : Evt) (w : World) : Calls Tryz.prog 83 #[.agg #[.bool e.ism, .int .i64 e.time, .int .i64 e.k, .int .i64 e.t, .int .i64 e.v]] w fun r w' => (∃ b : Bool, r = .returned (.bool b) ∧ (b = true → etok e = true)) ∧ Below w.heap.size w w' := by
 obtain ⟨ism, time, xk, xt, xv⟩ := e
 simp only
 have hb0 : Below w.heap.size w (w.alloc (.cells #[.bool ism, .int .i64 time, .int .i64 xk, .int .i64 xt, .int .i64 xv] 67)) := below_new (Below.refl _ _) _
 have HB0 := Lib.hid hb0
 clear hb0
 have HT := Lib.hid (fun t W => rcheck_any t 1 W)
 cases ism with
 | true =>
  obtain ⟨R, hR⟩ : ∃ R, (xk == 0 && (xt == 0 && xv == 0)) = R := ⟨_, rfl⟩
  have hq := fun W => by have := eql_rec xk xt xv W; rwa [hR] at this
  cases R with
  | false =>
   clear hR
   go_enter Tryz.func83, Tryz.ntmps83
   go_wp2_with fail
   go_ret
   exact ⟨⟨false, rfl, fun h => (by cases h)⟩, HB0.out⟩
  | true =>
   have hr : xk = 0 ∧ xt = 0 ∧ xv = 0 := by simpa using hR
   have HR := Lib.hid hr
   clear hR hr
   by_cases h2 : time = 9223372036854775807
   ·subst h2
    have d : ((9223372036854775807 : Int) == 9223372036854775807) = true := by decide
    go_enter Tryz.func83, Tryz.ntmps83
    go_wp2_with fail
    go_ret
    exact ⟨⟨true, rfl, fun _ => by have := HR.out; unfold etok; simp [this]⟩, HB0.out⟩
   ·have d : (time == 9223372036854775807) = false := by simp [h2]
    by_cases h3 : tchk time 1 = 0
    ·have HC := Lib.hid (fun W => by have := HT.out time W; rwa [h3] at this)
     have ht : timeI time = true := by unfold tchk at h3; unfold timeI; simp only [decide_eq_true_eq]; grind
     have HTT := Lib.hid ht
     clear h2 h3 ht
     go_enter Tryz.func83, Tryz.ntmps83
     go_wp2_with fail
     go_at_call 119
     refine (HC.out _).mono ?_
     rintro r x2 ⟨rfl, rfl⟩
     go_wp2_with fail
     go_ret
     exact ⟨⟨true, rfl, fun _ => by have := HR.out; have := HTT.out; unfold etok; simp [*]⟩, HB0.out⟩
    ·obtain ⟨c, hc⟩ : ∃ c, tchk time 1 = c := ⟨_, rfl⟩
     rw [hc] at h3
     have dc : (c == 0) = false := by simp [h3]
     have HC := Lib.hid (fun W => by have := HT.out time W; rwa [hc] at this)
     clear h2 h3 hc
     go_enter Tryz.func83, Tryz.ntmps83
     go_wp2_with fail
     go_at_call 119
     refine (HC.out _).mono ?_
     rintro r x2 ⟨rfl, rfl⟩
     go_wp2_with fail
     go_ret
     exact ⟨⟨false, rfl, fun h => (by cases h)⟩, HB0.out⟩
 | false =>
  by_cases h2 : time = 0
  ·subst h2
   have d : ((0 : Int) == 0) = true := by decide
   by_cases h3 : tchk xt 1 = 0
   ·have HC := Lib.hid (fun W => by have := HT.out xt W; rwa [h3] at this)
    have ht : timeI xt = true := by unfold tchk at h3; unfold timeI; simp only [decide_eq_true_eq]; grind
    have HTT := Lib.hid ht
    clear h3 ht
    go_enter Tryz.func83, Tryz.ntmps83
    go_wp2_with fail
    go_at_call 119
    refine (HC.out _).mono ?_
    rintro r x2 ⟨rfl, rfl⟩
    go_wp2_with fail
    go_ret
    exact ⟨⟨true, rfl, fun _ => by have := HTT.out; unfold etok; simp [*]⟩, HB0.out⟩
   ·obtain ⟨c, hc⟩ : ∃ c, tchk xt 1 = c := ⟨_, rfl⟩
    rw [hc] at h3
    have dc : (c == 0) = false := by simp [h3]
    have HC := Lib.hid (fun W => by have := HT.out xt W; rwa [hc] at this)
    clear h3 hc
    go_enter Tryz.func83, Tryz.ntmps83
    go_wp2_with fail
    go_at_call 119
    refine (HC.out _).mono ?_
    rintro r x2 ⟨rfl, rfl⟩
    go_wp2_with fail
    go_ret
    exact ⟨⟨false, rfl, fun h => (by cases h)⟩, HB0.out⟩
  ·have d : (time == 0) = false := by simp [h2]
   clear h2
   go_enter Tryz.func83, Tryz.ntmps83
   go_wp2_with fail
   go_ret
   exact ⟨⟨false, rfl, fun h => (by cases h)⟩, HB0.out⟩
def EvOkP (l : List Evt) (w : World) (r : Ending) (w' : World) : Prop := ∃ e : Int, r = .returned (.int .i64 e) ∧ (e = 0 → l.length ≤ 60 ∧ ∀ x ∈ l, etok x = true) ∧ Below w.heap.size w w'
set_option maxHeartbeats 4000000 in
theorem rcheck20_any (A : Option Addr) (c n : Nat) (l : List Evt) (w : World) (hn : l.length = n) (hr : Rd etenc 5 w w.heap.size A l) :
  Calls Tryz.prog 47 #[.slice A n c] w (EvOkP l w) := by
 have HN := Lib.hid hn
 clear hn
 by_cases h60 : n ≤ 60
 ·have d0 : decide (60 < n) = false := by simp; omega
  have d0' : decide ((60 : Int) < (n : Int)) = false := by simp; omega
  go_enter Tryz.func47, Tryz.ntmps47
  go_wp2_with fail
  go_loopw [3] (fun i wr => ∃ k : Nat, k ≤ n ∧ i = .int .i64 k ∧ (∀ x ∈ l.take k, etok x = true) ∧ Below w.heap.size w wr) (fun i _ => n - (intOf i).toNat)
  case atStart => exact ⟨0, Nat.zero_le _, rfl, by simp, Below.refl _ _⟩
  case round =>
   obtain ⟨k, hk, rfl, hall, hb⟩ := hrel
   by_cases hlt : k < n
   ·obtain ⟨x, hx⟩ : ∃ x, l[k]? = some x := ⟨_, List.getElem?_eq_getElem (by rw [HN.out]; exact hlt)⟩
    obtain ⟨b, off, rfl, hbb, f0, f1, f2, f3, f4⟩ := et_cells (rd_grown hr hb) hx
    have d1 : decide ((k : Int) < (n : Int)) = true := by simp; omega
    have d1' : decide (k < n) = true := by simp [hlt]
    have k1 : (0 : Int) ≤ (k : Int) := by omega
    have k2 : (k : Int) < (n : Int) := by omega
    have e1 : IntKind.i64.wrap ((k : Int) + 1) = (k : Int) + 1 := IntWalk.i64_in _ (by omega)
    have HNX := Lib.hid (fun (h : etok x = true) => show ∀ y ∈ l.take (k + 1), etok y = true by
     intro y hy
     rw [List.take_add_one, hx, Option.toList, List.mem_append, List.mem_singleton] at hy
     rcases hy with hy | rfl
     ·exact hall y hy
     ·exact h)
    have HV := Lib.hid (fun W => evalid_any x W)
    have HL := Lib.hid hlt; have HB := Lib.hid hb
    clear hx hlt hall hb
    go_wp2_with fail
    go_at_call 83
    refine (HV.out _).mono ?_
    rintro r x2 ⟨⟨bb, rfl, hok⟩, hb2⟩
    cases bb with
    | true =>
     have HE := Lib.hid (hok rfl)
     clear hok
     go_wp2_with fail
     go_roundw
     case rel => exact ⟨k + 1, HL.out, by go_num, HNX.out HE.out, below_then HB.out hb2⟩
     case measure => have := HL.out; simp [intOf]; omega
    | false =>
     go_wp2_with fail
     go_ret
     exact ⟨8, rfl, fun h => (by cases h), below_then HB.out hb2⟩
   ·obtain rfl : k = n := by omega
    have d1 : decide ((k : Int) < (k : Int)) = false := by simp
    have d1' : decide (k < k) = false := by simp
    have HA := Lib.hid hall
    clear hall
    go_wp2_with fail
    go_ret
    exact ⟨0, rfl, fun _ => ⟨by rw [HN.out]; exact h60, by have := HA.out; rwa [List.take_of_length_le (by rw [HN.out]; exact Nat.le_refl _)] at this⟩, hb⟩
 ·have d0 : decide (60 < n) = true := by simp; omega
  have d0' : decide ((60 : Int) < (n : Int)) = true := by simp; omega
  go_enter Tryz.func47, Tryz.ntmps47
  go_wp2_with fail
  go_ret
  exact ⟨4, rfl, fun h => (by cases h), Below.refl _ _⟩
def EvsOkP (ls : List (List Evt)) (w : World) (r : Ending) (w' : World) : Prop := ∃ e : Int, r = .returned (.int .i64 e) ∧ (e = 0 → ∀ l ∈ ls, l.length ≤ 60 ∧ ∀ x ∈ l, etok x = true) ∧ Below w.heap.size w w'
set_option maxHeartbeats 4000000 in
theorem rwrong21_any (I : Option Addr) (ci n : Nat) (ls : List (List Evt)) (w : World) (hn : ls.length = n) (hmax : n ≤ 9223372036854775807) (hr : RdL etenc 5 w I ls) :
  Calls Tryz.prog 20 #[.slice I n ci] w (EvsOkP ls w) := by
 have HN := Lib.hid hn
 clear hn
 go_enter Tryz.func20, Tryz.ntmps20
 go_wp2_with fail
 go_loopw [3, 4] (fun i _ wr => ∃ k : Nat, k ≤ n ∧ i = .int .i64 k ∧ (∀ l ∈ ls.take k, l.length ≤ 60 ∧ ∀ x ∈ l, etok x = true) ∧ Below w.heap.size w wr) (fun i _ _ => n - (intOf i).toNat)
 case atStart => exact ⟨0, Nat.zero_le _, rfl, by simp, Below.refl _ _⟩
 case round =>
  obtain ⟨k, hk, rfl, hall, hb⟩ := hrel
  by_cases hlt : k < n
  ·obtain ⟨l, hx⟩ : ∃ l, ls[k]? = some l := ⟨_, List.getElem?_eq_getElem (by rw [HN.out]; exact hlt)⟩
   obtain ⟨b, off, A', n', c', rfl, hbb, f0, a1, a2, a3, a4⟩ := (hr.grow hb).at_ hx
   have d1 : decide ((k : Int) < (n : Int)) = true := by simp; omega
   have d1' : decide (k < n) = true := by simp [hlt]
   have k1 : (0 : Int) ≤ (k : Int) := by omega
   have k2 : (k : Int) < (n : Int) := by omega
   have e1 : IntKind.i64.wrap ((k : Int) + 1) = (k : Int) + 1 := IntWalk.i64_in _ (by omega)
   have HNX := Lib.hid (fun (h : l.length ≤ 60 ∧ ∀ x ∈ l, etok x = true) => show ∀ y ∈ ls.take (k + 1), y.length ≤ 60 ∧ ∀ x ∈ y, etok x = true by
    intro y hy
    rw [List.take_add_one, hx, Option.toList, List.mem_append, List.mem_singleton] at hy
    rcases hy with hy | rfl
    ·exact hall y hy
    ·exact h)
   have HV := Lib.hid (rcheck20_any A' c' n' l wr a1 a4)
   have HL := Lib.hid hlt; have HB := Lib.hid hb
   clear hx hlt hall hb a1 a2 a3 a4
   go_wp2_with fail
   go_at_call 47
   refine HV.out.mono ?_
   rintro r x2 ⟨e, rfl, hok, hb2⟩
   by_cases hz : e = 0
   ·subst hz
    have HE := Lib.hid (hok rfl)
    clear hok
    go_wp2_with fail
    go_roundw
    case rel => exact ⟨k + 1, HL.out, by go_num, HNX.out HE.out, below_then HB.out hb2⟩
    case measure => have := HL.out; simp [intOf]; omega
   ·have dz : (e != 0) = true := by simp [hz]
    have HZ := Lib.hid hz
    clear hz hok
    go_wp2_with fail
    go_ret
    exact ⟨e, rfl, fun h => absurd h HZ.out, below_then HB.out hb2⟩
  ·obtain rfl : k = n := by omega
   have d1 : decide ((k : Int) < (k : Int)) = false := by simp
   have d1' : decide (k < k) = false := by simp
   have HA := Lib.hid hall
   clear hall
   go_wp2_with fail
   go_ret
   exact ⟨0, rfl, fun _ => by have := HA.out; rwa [List.take_of_length_le (by rw [HN.out]; exact Nat.le_refl _)] at this, hb⟩
set_option maxHeartbeats 4000000 in
theorem rgreat21_any (I : Option Addr) (ci n : Nat) (ls : List (List Evt)) (w : World) (hn : ls.length = n) (hmax : n ≤ 9223372036854775807) (hr : RdL etenc 5 w I ls) :
  Calls Tryz.prog 6 #[.slice I n ci] w fun r w' => (∃ b : Bool, r = .returned (.bool b) ∧ (b = false → (∀ l ∈ ls, l.length ≤ 20 ∨ l.length = 61) ∧ n ≤ 6)) ∧ Below w.heap.size w w' := by
 have HN := Lib.hid hn
 clear hn
 go_enter Tryz.func6, Tryz.ntmps6
 go_wp2_with fail
 go_loopw [3] (fun i wr => ∃ k : Nat, k ≤ n ∧ k ≤ 7 ∧ i = .int .i64 k ∧ (∀ l ∈ ls.take k, l.length ≤ 20 ∨ l.length = 61) ∧ Below w.heap.size w wr) (fun i _ => n - (intOf i).toNat)
 case atStart => exact ⟨0, Nat.zero_le _, by omega, rfl, by simp, Below.refl _ _⟩
 case round =>
  obtain ⟨k, hk, hk7, rfl, hall, hb⟩ := hrel
  by_cases hlt : k < n
  ·have d1 : decide ((k : Int) < (n : Int)) = true := by simp; omega
   have d1' : decide (k < n) = true := by simp [hlt]
   by_cases h7 : k < 7
   ·obtain ⟨l, hx⟩ : ∃ l, ls[k]? = some l := ⟨_, List.getElem?_eq_getElem (by rw [HN.out]; exact hlt)⟩
    obtain ⟨b, off, A', n', c', rfl, hbb, f0, a1, a2, a3, a4⟩ := (hr.grow hb).at_ hx
    have d2 : decide ((k : Int) < 7) = true := by simp; omega
    have d2' : decide (k < 7) = true := by simp [h7]
    have k1 : (0 : Int) ≤ (k : Int) := by omega
    have k2 : (k : Int) < (n : Int) := by omega
    have e1 : IntKind.i64.wrap ((k : Int) + 1) = (k : Int) + 1 := IntWalk.i64_in _ (by omega)
    have HNX := Lib.hid (fun (h : l.length ≤ 20 ∨ l.length = 61) => show ∀ y ∈ ls.take (k + 1), y.length ≤ 20 ∨ y.length = 61 by
     intro y hy
     rw [List.take_add_one, hx, Option.toList, List.mem_append, List.mem_singleton] at hy
     rcases hy with hy | rfl
     ·exact hall y hy
     ·exact h)
    have HL := Lib.hid hlt; have HB := Lib.hid hb; have H7 := Lib.hid h7
    rw [a1] at HNX
    clear hx hlt hall hb a1 a2 a3 a4 h7
    by_cases g1 : n' ≤ 20
    ·have d3 : decide (20 < n') = false := by simp; omega
     have d3' : decide ((20 : Int) < (n' : Int)) = false := by simp; omega
     go_wp2_with fail
     go_roundw
     case rel => exact ⟨k + 1, HL.out, H7.out, by go_num, HNX.out (.inl g1), HB.out⟩
     case measure => have := HL.out; simp [intOf]; omega
    ·have d3 : decide (20 < n') = true := by simp; omega
     have d3' : decide ((20 : Int) < (n' : Int)) = true := by simp; omega
     by_cases g2 : n' = 61
     ·subst g2
      go_wp2_with fail
      go_roundw
      case rel => exact ⟨k + 1, HL.out, H7.out, by go_num, HNX.out (.inr rfl), HB.out⟩
      case measure => have := HL.out; simp [intOf]; omega
     ·have d4 : (n' != 61) = true := by simp [g2]
      have d4' : (((n' : Nat) : Int) != 61) = true := by simp; omega
      go_wp2_with fail
      go_ret
      exact ⟨⟨true, rfl, fun h => (by cases h)⟩, HB.out⟩
   ·have d2 : decide ((k : Int) < 7) = false := by simp; omega
    have d2' : decide (k < 7) = false := by simp [h7]
    have d3 : decide (6 < n) = true := by simp; omega
    have d3' : decide ((6 : Int) < (n : Int)) = true := by simp; omega
    clear hall
    go_wp2_with fail
    go_ret
    exact ⟨⟨true, rfl, fun h => (by cases h)⟩, hb⟩
  ·obtain rfl : k = n := by omega
   have d1 : decide ((k : Int) < (k : Int)) = false := by simp
   have d1' : decide (k < k) = false := by simp
   have HA := Lib.hid hall
   clear hall
   obtain ⟨B, hB⟩ : ∃ B, decide ((6 : Int) < (k : Int)) = B := ⟨_, rfl⟩
   have hB2 : decide (6 < k) = B := by rw [← hB]; exact decide_eq_decide.2 (by omega)
   have HBB := Lib.hid hB2
   go_wp2_with fail
   go_ret
   exact ⟨⟨B, rfl, fun h => ⟨by have := HA.out; rwa [List.take_of_length_le (by rw [HN.out]; exact Nat.le_refl _)] at this, by have h1 := HBB.out; rw [h] at h1; simpa using h1⟩⟩, hb⟩
theorem rm_cells {w : World} {B : Nat} {A : Option Addr} {l : List Rm} (h : Rd rmenc 5 w B A l) {k : Nat} {x : Rm} (hx : l[k]? = some x) :
  ∃ b off, A = some ⟨b, off, none⟩ ∧ b < B ∧ w.cell? ⟨b, off + k * 5, none⟩ = some (.int .i64 x.k) ∧ w.cell? ⟨b, off + k * 5 + 1, none⟩ = some (.int .i64 x.s) ∧ w.cell? ⟨b, off + k * 5 + 2, none⟩ = some (.int .i64 x.e) ∧
   w.cell? ⟨b, off + k * 5 + 3, none⟩ = some (.int .i64 x.a) ∧ w.cell? ⟨b, off + k * 5 + 4, none⟩ = some (.int .i64 x.b) := by
 obtain ⟨b, off, e, hb, hc⟩ := h.at_ hx
 exact ⟨b, off, e, hb, by simpa using hc 0 _ rfl, hc 1 _ rfl, hc 2 _ rfl, hc 3 _ rfl, hc 4 _ rfl⟩
theorem neq_rm' (x : Rm) (w : World) : (binOp .neq 65 (.agg #[.int .i64 x.k, .int .i64 x.s, .int .i64 x.e, .int .i64 x.a, .int .i64 x.b]) (.agg #[.int .i64 x.k, .int .i64 x.s, .int .i64 x.e, .int .i64 x.a, .int .i64 x.b])).run Tryz.prog w = .ok (.bool false) w := by
 have harr := eql_arr2
 go_simp
theorem neq_rec' (x : Pt) (w : World) : (binOp .neq 47 (.agg #[.int .i64 x.k, .int .i64 x.t, .int .i64 x.v]) (.agg #[.int .i64 x.k, .int .i64 x.t, .int .i64 x.v])).run Tryz.prog w = .ok (.bool false) w := by
 go_simp
set_option maxHeartbeats 4000000 in
theorem rsame21_any (A A' : Option Addr) (c c' n : Nat) (l : List Rm) (w : World) (hl : Rd rmenc 5 w w.heap.size A l) (hm : Rd rmenc 5 w w.heap.size A' l) (hn : l.length = n) (hmax : n ≤ 4611686018427387904) :
  Calls Tryz.prog 10 #[.slice A n c, .slice A' n c'] w fun r w' => r = .returned (.bool true) ∧ Below w.heap.size w w' := by
 have h1 : ((n : Int) != (n : Int)) = false := by simp
 have HN := Lib.hid hn
 clear hn
 go_enter Tryz.func10, Tryz.ntmps10
 go_wp2_with fail
 go_loopw [5] (fun i wr => ∃ k : Nat, k ≤ n ∧ i = .int .i64 k ∧ ∃ q : Nat, wr = w.drewN q) (fun i _ => n - (intOf i).toNat)
 case atStart => exact ⟨0, Nat.zero_le _, rfl, 0, rfl⟩
 case round =>
  obtain ⟨k, hk, rfl, q, rfl⟩ := hrel
  by_cases hlt : k < n
  ·obtain ⟨x, hx⟩ : ∃ x, l[k]? = some x := ⟨_, List.getElem?_eq_getElem (by rw [HN.out]; exact hlt)⟩
   obtain ⟨b, off, rfl, hbb, f0, f1, f2, f3, f4⟩ := rm_cells hl hx
   obtain ⟨b', off', rfl, hbb', g0, g1, g2, g3, g4⟩ := rm_cells hm hx
   have hrun := neq_rm' x
   have d1 : decide ((k : Int) < (n : Int)) = true := by simp; omega
   have d1' : decide (k < n) = true := by simp [hlt]
   have k1 : (0 : Int) ≤ (k : Int) := by omega
   have k2 : (k : Int) < (n : Int) := by omega
   have e1 : IntKind.i64.wrap ((k : Int) + 1) = (k : Int) + 1 := IntWalk.i64_in _ (by omega)
   have HL := Lib.hid hlt
   clear hl hm hx hlt
   go_wp2_with fail
   go_quiet (fail)
   go_wp2_with fail
   go_roundw
   case rel => exact ⟨k + 1, HL.out, by go_num, _, rfl⟩
   case measure => have := HL.out; simp [intOf]; omega
  ·obtain rfl : k = n := by omega
   have d1 : decide ((k : Int) < (k : Int)) = false := by simp
   have d1' : decide (k < k) = false := by simp
   go_wp2_with fail
   go_ret
   exact ⟨rfl, below_drewN (Below.refl _ _) _⟩
set_option maxHeartbeats 4000000 in
theorem rsame20_any (A A' : Option Addr) (c c' n : Nat) (l : List Pt) (w : World) (hl : Rd rcenc 3 w w.heap.size A l) (hm : Rd rcenc 3 w w.heap.size A' l) (hn : l.length = n) (hmax : n ≤ 4611686018427387904) :
  Calls Tryz.prog 11 #[.slice A n c, .slice A' n c'] w fun r w' => r = .returned (.bool true) ∧ Below w.heap.size w w' := by
 have h1 : ((n : Int) != (n : Int)) = false := by simp
 have HN := Lib.hid hn
 clear hn
 go_enter Tryz.func11, Tryz.ntmps11
 go_wp2_with fail
 go_loopw [5] (fun i wr => ∃ k : Nat, k ≤ n ∧ i = .int .i64 k ∧ ∃ q : Nat, wr = w.drewN q) (fun i _ => n - (intOf i).toNat)
 case atStart => exact ⟨0, Nat.zero_le _, rfl, 0, rfl⟩
 case round =>
  obtain ⟨k, hk, rfl, q, rfl⟩ := hrel
  by_cases hlt : k < n
  ·obtain ⟨x, hx⟩ : ∃ x, l[k]? = some x := ⟨_, List.getElem?_eq_getElem (by rw [HN.out]; exact hlt)⟩
   obtain ⟨b, off, rfl, hbb, f0, f1, f2⟩ := rc_cells hl hx
   obtain ⟨b', off', rfl, hbb', g0, g1, g2⟩ := rc_cells hm hx
   have hrun := neq_rec' x
   have d1 : decide ((k : Int) < (n : Int)) = true := by simp; omega
   have d1' : decide (k < n) = true := by simp [hlt]
   have k1 : (0 : Int) ≤ (k : Int) := by omega
   have k2 : (k : Int) < (n : Int) := by omega
   have e1 : IntKind.i64.wrap ((k : Int) + 1) = (k : Int) + 1 := IntWalk.i64_in _ (by omega)
   have HL := Lib.hid hlt
   clear hl hm hx hlt
   go_wp2_with fail
   go_quiet (fail)
   go_wp2_with fail
   go_roundw
   case rel => exact ⟨k + 1, HL.out, by go_num, _, rfl⟩
   case measure => have := HL.out; simp [intOf]; omega
  ·obtain rfl : k = n := by omega
   have d1 : decide ((k : Int) < (k : Int)) = false := by simp
   have d1' : decide (k < k) = false := by simp
   go_wp2_with fail
   go_ret
   exact ⟨rfl, below_drewN (Below.refl _ _) _⟩
end Go.Proofs.YtnljihjhmgpcoaaGreat
