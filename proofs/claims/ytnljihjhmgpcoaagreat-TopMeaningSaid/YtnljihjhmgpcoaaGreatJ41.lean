/- Lemmas and contracts for the statement, joined into one text: TopHyps2, MeanAll, RewQuery, RewTwin. The conditions of each stand at its head. -/
import Derived.Test.YtnljihjhmgpcoaaGreatJ28
import Derived.Test.YtnljihjhmgpcoaaGreatJ35
import Derived.Test.YtnljihjhmgpcoaaGreatJ7
import Derived.Test.YtnljihjhmgpcoaaGreatJ37
import Derived.Test.YtnljihjhmgpcoaaGreatJ26
import Derived.Test.YtnljihjhmgpcoaaGreatJ23
import Derived.Test.YtnljihjhmgpcoaaGreatJ1
import Derived.Test.YtnljihjhmgpcoaaGreatJ40
import Derived.Test.YtnljihjhmgpcoaaGreatJ33
namespace Go.Proofs.YtnljihjhmgpcoaaGreat
open Go.RowKit
/-- What counts of lists of events, whatever the side. -/
def cntL (q : Qy) (ls : List (List Evt)) : List Pt := ls.flatMap fun l => (rightL low64 l).filterMap (cntP q)
theorem cntL_succ {q : Qy} {ls : List (List Evt)} {k : Nat} {l : List Evt} (h : ls[k]? = some l) : cntL q (ls.take (k + 1)) = cntL q (ls.take k) ++ (rightL low64 l).filterMap (cntP q) := by
 rw [List.take_add_one, h, Option.toList]
 simp [cntL]
theorem cntL_len (q : Qy) (ls : List (List Evt)) (h : ∀ l ∈ ls, l.length ≤ 60) : (cntL q ls).length ≤ ls.length * 60 := by
 induction ls with
 | nil => simp [cntL]
 | cons l ls ih =>
  have h1 := ih (fun x hx => h x (List.mem_cons_of_mem _ hx))
  have h2 := rightL_len l low64
  have h3 := h l List.mem_cons_self
  have h4 := List.length_filterMap_le (cntP q) (rightL low64 l)
  unfold cntL at *
  rw [List.flatMap_cons, List.length_append, List.length_cons, Nat.add_mul]
  omega
theorem puts_plain {q : Qy} (hj : q.jo = false) : ∀ (ls : List (List Evt)) (i : Nat), putsF q i ls = cntL q ls
 | [], _ => rfl
 | l :: ls, i => by
  have e : ((rightL low64 l).filterMap (cntP q)).map (sideP (onS q i)) = (rightL low64 l).filterMap (cntP q) := by
   have h0 : onS q i = 0 := by unfold onS; rw [hj]; rfl
   rw [h0]
   refine (List.map_congr_left (g := id) fun x hx => ?_).trans (List.map_id _)
   obtain ⟨y, _, hy⟩ := List.mem_filterMap.1 hx
   have hd := (cnt_t hy).2
   obtain ⟨a, b, c, d⟩ := x
   simp only at hd
   subst hd
   rfl
  simp only [putsF, e, puts_plain hj ls (i + 1)]
  simp [cntL]
theorem ev_in {e : Ex} (ho : e.ok) {r : Pt} (hr : in64 r.k ∧ in64 r.t ∧ in64 r.v) : in64 (e.ev r) := by
 induction e with
 | lf k n p =>
  have := ho.1.2.1
  simp only [Ex.ev]
  exact in_ite (by unfold in64; omega) (in_ite hr.1 (in_ite hr.2.1 hr.2.2))
 | un k p e ih => exact doI_in (ih ho.2.2)
 | bn k p e f ih1 ih2 => exact doI_in (ih1 ho.2.2.1)
theorem wf_in {x : Int} (h : in64 x) : (Lit.int .i64 x).wf = true := by unfold in64 at h; exact WalkArith.wf_i64 (by omega)
theorem in_wf {x : Int} (h : (Lit.int .i64 x).wf = true) : in64 x := by have := bounds_i64 h; unfold in64; omega
def evs64 (ls : List (List Evt)) : Prop := ∀ l ∈ ls, ∀ e ∈ l, in64 e.k ∧ in64 e.t ∧ in64 e.v
theorem cnt_v {q : Qy} (hq : q.good) {r x : Pt} (h : cntP q r = some x) (hr : in64 r.k ∧ in64 r.t ∧ in64 r.v) : in64 x.v := by
 have hv : in64 (match q.arg with | none => (0 : Int) | some a => a.ev r) := by
  cases ha : q.arg with
  | none => unfold in64; simp
  | some a => exact ev_in (hq.arg a ha).1.1 hr
 unfold cntP at h
 split at h
 ·split at h
  ·cases h
  ·obtain rfl := Option.some.inj h; exact hv
 ·obtain rfl := Option.some.inj h; exact hv
theorem cntL_rct {q : Qy} (hq : q.good) {ls : List (List Evt)} (h64 : evs64 ls) : ∀ x ∈ cntL q ls, rctok x := by
 intro x hx
 obtain ⟨l, hl, hx⟩ := List.mem_flatMap.1 hx
 obtain ⟨r, hr, hx⟩ := List.mem_filterMap.1 hx
 obtain ⟨e, he, _, rfl⟩ := rightL_mem _ _ _ hr
 exact ⟨(cnt_t hx).2, wf_in (cnt_v hq hx (h64 l hl e he))⟩
/-- The row of an entry that has records of the first side. -/
def rmOf (ag : Int) (x : En) : Rm := ⟨x.k, x.s, x.e, atold ag x.a, 0⟩
theorem entry_pos {wk ws we : Int} {P : List Pt} {a : List En} (hi : InvA wk ws we P a) (hck : enchk a = 0) (hd : ∀ p ∈ P, p.d = 0) {x : En} (hx : x ∈ a) : x.c1 ≠ 0 ∧ x.a.ok := by
 have hr := ((inv_mem hi x).1 hx).2
 have h2 : x.c2 = (P.filter (sideE 1 x)).length := by have := accP_c (sideE 1 x) P; rw [← hr.2] at this; exact this
 have h0 : P.filter (sideE 1 x) = [] := List.filter_eq_nil_iff.2 fun p hp => by simp [sideE, hd p hp]
 rw [h0] at h2
 have he := (enchk_zero.1 hck).2.1 x hx
 unfold enok at he
 simp only [Bool.and_eq_true, decide_eq_true_eq] at he
 have h3 : x.c2 = 0 := by simpa using h2
 refine ⟨by omega, ?_⟩
 have h4 := he.2.1
 unfold accok at h4
 exact of_decide_eq_true h4
theorem rows_plain {ag : Int} {a : List En} (h : ∀ x ∈ a, x.c1 ≠ 0) : a.filterMap (rowE false ag) = a.map (rmOf ag) := by
 induction a with
 | nil => rfl
 | cons x a ih =>
  have h1 := h x List.mem_cons_self
  have e : rowE false ag x = some (rmOf ag x) := by unfold rowE rmOf; rw [if_neg h1]; rfl
  rw [List.filterMap_cons, e, ih (fun y hy => h y (List.mem_cons_of_mem _ hy)), List.map_cons]
theorem cntL_d {q : Qy} {ls : List (List Evt)} : ∀ x ∈ cntL q ls, x.d = 0 := by
 intro x hx
 obtain ⟨l, hl, hx⟩ := List.mem_flatMap.1 hx
 obtain ⟨r, hr, hx⟩ := List.mem_filterMap.1 hx
 exact (cnt_t hx).2
/-- The panes' values of all records that count are the store's entries. -/
theorem pvals_all {q : Qy} (hq : q.good) (hj : q.jo = false) (hs : slchk q.wk q.ws q.we = 0) {ls : List (List Evt)} (hlen : ls.length = q.src.length) (hev : evsOk ls) {a : List En} (ha : allE q.wk q.ws q.we [] (putsQ q ls) = some a) :
  pvals q.wk q.ws q.we (cntL q ls) = (a, 0) := by
 obtain ⟨h1, h2⟩ := puts_fit hq hlen hev
 have e : putsQ q ls = cntL q ls := puts_plain hj ls 0
 rw [e] at h1 h2 ha
 unfold pvals
 rw [if_neg (by simp [hs]), if_neg (by omega), if_pos, ha]
 ·rfl
 ·rw [List.all_eq_true]
  intro p hp
  have := (h2 p hp).1
  unfold timeB
  simpa using this
end Go.Proofs.YtnljihjhmgpcoaaGreat
namespace Go.Proofs.YtnljihjhmgpcoaaGreat
open Go.RowKit Go.ChangeShapes Go.WideShapes Go.ChangeAt Go.Deep
theorem rm_info : (Tryz.prog.info? 65).map (fun i => (i.zero, i.size, i.bytes)) = some (some (.agg #[.int .i64 0, .int .i64 0, .int .i64 0, .int .i64 0, .int .i64 0]), 5, 40) := by kernel_rfl
theorem rm_el : ElOk Tryz.prog 33 65 5 40 := elOk rm_info Tryz.underlying33 rfl (by decide) (by decide)
theorem rm_one : OneCells rmenc := by
 intro x u hu; simp [rmenc] at hu; rcases hu with rfl | rfl | rfl | rfl | rfl <;> rfl
def MAllP (q : Qy) (ls : List (List Evt)) (a : List En) (w : World) (r : Ending) (w' : World) : Prop :=
 ∃ v1 v2, r = .returned (.tuple #[v1, v2, .int .i64 0]) ∧ Own rmenc 5 w' w.heap.size 65 v1 (a.filterMap (rowE q.jo q.ag)) ∧ Own rcenc 3 w' w.heap.size 47 v2 (if q.la = 2 then lateQ ls else []) ∧ Below w.heap.size w w'
theorem late_succ {ls : List (List Evt)} {k : Nat} {l : List Evt} (h : ls[k]? = some l) : lateQ (ls.take (k + 1)) = lateQ (ls.take k) ++ lateL low64 l := by
 rw [List.take_add_one, h, Option.toList]
 simp [lateQ]
theorem late_len (ls : List (List Evt)) (h : ∀ l ∈ ls, l.length ≤ 60) : (lateQ ls).length ≤ ls.length * 60 := by
 induction ls with
 | nil => simp [lateQ]
 | cons l ls ih =>
  have h1 := ih (fun x hx => h x (List.mem_cons_of_mem _ hx))
  have h2 := lateL_len l low64
  have h3 := h l List.mem_cons_self
  unfold lateQ at *
  rw [List.flatMap_cons, List.length_append, List.length_cons, Nat.add_mul]
  omega
theorem apart_new {u v : Value} {α : Type} {enc : α → List Value} {size base : Nat} {w : World} {e : TypeId} {l : List α} (hu : Own enc size w base e u l) (hv : ∀ k, v.ownBlock = some k → k < base) : u.ownBlock = none ∨ u.ownBlock ≠ v.ownBlock := by
 cases hb : u.ownBlock with
 | none => exact .inl rfl
 | some k =>
  have h1 := (World.ownsRow.lt hu k hb).1
  exact .inr fun e => by have := hv k e.symm; omega
theorem own_blk {v : Value} {α : Type} {enc : α → List Value} {size base : Nat} {w : World} {e : TypeId} {l : List α} (hu : Own enc size w base e v l) : ∀ k, v.ownBlock = some k → k < w.heap.size := fun k hk => (World.ownsRow.lt hu k hk).2
set_option maxHeartbeats 32000000 in
set_option maxRecDepth 100000 in
theorem mall_any (q : Qy) (hq : q.good) (ls : List (List Evt)) (hlen : ls.length = q.src.length) (hev : ∀ l ∈ ls, l.length ≤ 60 ∧ ∀ e ∈ l, etok e = true) (a : List En)
  (hpre : ∀ X, X <+: putsQ q ls → ∃ b, allE q.wk q.ws q.we [] X = some b ∧ b.length ≤ 4000) (ha : allE q.wk q.ws q.we [] (putsQ q ls) = some a) (hck : enchk a = 0)
  (A B C I : Option Addr) (na ca nb cb nc cc n ci : Nat) (w : World) (hn : ls.length = n) (h : QRd w q A B C na ca nb cb nc cc) (hr : RdL etenc 5 w I ls) :
  Calls Tryz.prog 8 #[.agg #[.int .u8 q.ag, .slice A na ca, .slice B nb cb, .bool q.jo, .slice C nc cc, .int .u8 q.wk, .int .i64 q.ws, .int .i64 q.we, .bool q.ky, .int .u8 q.la], .slice I n ci] w (MAllP q ls a w) := by
 obtain rfl : nb = n := by rw [← h.2.1.1, ← hlen, hn]
 have h4 : nb ≤ 4 := by rw [← h.2.1.1]; exact hq.src.1.2
 have hag := hq.ag
 have hla := hq.la
 have hwe : (Lit.int .i64 q.we).wf = true := by have := hq.win; unfold wok at this; exact wf_i64 (by omega) (by omega)
 obtain ⟨mb, hmb⟩ : ∃ mb, w.heap.size = mb := ⟨_, rfl⟩
 have hl0 := (Loc.nil w).new [.int .u8 q.ag, .slice A na ca, .slice B nb cb, .bool q.jo, .slice C nc cc, .int .u8 q.wk, .int .i64 q.ws, .int .i64 q.we, .bool q.ky, .int .u8 q.la] 27
 have hb0 : Below w.heap.size w (w.alloc (.cells #[.int .u8 q.ag, .slice A na ca, .slice B nb cb, .bool q.jo, .slice C nc cc, .int .u8 q.wk, .int .i64 q.ws, .int .i64 q.we, .bool q.ky, .int .u8 q.la] 27)) := below_new (Below.refl _ _) _
 have HCK := Lib.hid (qcheck_any q hq A B C na ca nb cb nc cc _ (h.grow hb0))
 have HEV := Lib.hid (fun W (hb : Below w.heap.size w W) => mevents_ok I ci nb ls W hn (by omega) hev (hr.grow hb))
 have HCN := Lib.hid (fun r W (hb : Below w.heap.size w W) => mcounts_any q hq r A B C na ca nb cb nc cc W (h.grow hb))
 have HRW := Lib.hid (fun x hxa hxb W => mrow_any q hag x hxa hxb A B C na ca nb cb nc cc W)
 have HN := Lib.hid hn; have HEVN := Lib.hid hev; have HPRE := Lib.hid hpre; have HAA := Lib.hid ha; have HCKA := Lib.hid hck; have HLA := Lib.hid hla; have HWE := Lib.hid hwe; have HMB := Lib.hid hmb
 rw [hmb] at hl0
 have hF := hl0
 (repeat unfold Loc at hF)
 clear hn hev hpre ha hck hla hwe hag h hlen
 go_enter Tryz.func8, Tryz.ntmps8
 go_wp2_with fail
 go_at_call 21
 refine HCK.out.mono ?_
 rintro r x2 ⟨rfl, hc2⟩
 replace hl0 := hl0.below hc2
 replace hb0 := below_then hb0 hc2
 clear hc2 hF HCK
 have hF := hl0
 (repeat unfold Loc at hF)
 go_wp2_with fail
 go_at_call 22
 refine (HEV.out _ hb0).mono ?_
 rintro r x3 ⟨rfl, hc3⟩
 replace hl0 := hl0.below hc3
 replace hb0 := below_then hb0 hc3
 clear hc3 hF HEV
 go_wp2_with fail
 go_loopw [10, 11, 48] (fun ve vs i wr => ∃ (k : Nat) (E : List En), k ≤ nb ∧ i = .int .i64 k ∧ allE q.wk q.ws q.we [] (putsF q 0 (ls.take k)) = some E ∧ Own enenc 11 wr (mb + 1) 62 ve E ∧ Own rcenc 3 wr (mb + 1) 47 vs (lateQ (ls.take k)) ∧ (ve.ownBlock = none ∨ ve.ownBlock ≠ vs.ownBlock) ∧ Loc wr [(mb, [.int .u8 q.ag, .slice A na ca, .slice B nb cb, .bool q.jo, .slice C nc cc, .int .u8 q.wk, .int .i64 q.ws, .int .i64 q.we, .bool q.ky, .int .u8 q.la])] ∧ Below w.heap.size w wr) (fun _ _ i _ => nb - (intOf i).toNat)
 case atStart => exact ⟨0, [], Nat.zero_le _, rfl, rfl, Own.nil _ _ _, Own.nil _ _ _, .inl rfl, hl0, hb0⟩
 case round =>
  obtain ⟨k, E, hk, rfl, hE, owe, ows, hap, hlr, hb⟩ := hrel
  clear hl0 hb0
  obtain ⟨wo, rfl⟩ : ∃ x, x = wr := ⟨_, rfl⟩
  by_cases hlt : k < nb
  ·obtain ⟨l, hl⟩ : ∃ l, ls[k]? = some l := ⟨_, List.getElem?_eq_getElem (by rw [HN.out]; exact hlt)⟩
   obtain ⟨b, off, A', n', c', rfl, hbb, f0, a1, a2, a3, a4⟩ := (hr.grow hb).at_ hl
   have hlo := HEVN.out l (List.mem_of_getElem? hl)
   have HS := Lib.hid (lsplit_any A' c' n' l wo a1 (by rw [← a1]; exact hlo.1) hlo.2 a4)
   have d1 : decide ((k : Int) < (nb : Int)) = true := by simp; omega
   have d1' : decide (k < nb) = true := by simp [hlt]
   have k1 : (0 : Int) ≤ (k : Int) := by omega
   have k2 : (k : Int) < (nb : Int) := by omega
   have e1 : IntKind.i64.wrap ((k : Int) + 1) = (k : Int) + 1 := IntWalk.i64_in _ (by omega)
   have HL := Lib.hid hlt; have HLS := Lib.hid (late_succ hl); have HPE := Lib.hid (pp_end (q := q) hl); have HPP := Lib.hid (fun j => pp_pre (q := q) hl j); have HE := Lib.hid hE; have HAP := Lib.hid hap
   have hlt2 : (lateQ (ls.take k)).length ≤ 240 := by
    have := late_len (ls.take k) (fun x hx => (HEVN.out x (List.mem_of_mem_take hx)).1)
    rw [List.length_take] at this
    have h3 : min k ls.length * 60 ≤ 4 * 60 := Nat.mul_le_mul (by omega) (Nat.le_refl _)
    omega
   have hll : (lateL low64 l).length ≤ 60 := Nat.le_trans (lateL_len l low64) hlo.1
   have hrl : (rightL low64 l).length ≤ 60 := Nat.le_trans (rightL_len l low64) hlo.1
   obtain ⟨R, hR⟩ : ∃ R, rightL low64 l = R := ⟨_, rfl⟩
   obtain ⟨m, hm⟩ : ∃ m, R.length = m := ⟨_, rfl⟩
   rw [hR] at hrl HPE HPP
   rw [hm] at hrl HPE
   have hppz : ppQ q ls k R 0 = putsF q 0 (ls.take k) := by simp [ppQ]
   have HRR := Lib.hid hR; have HM := Lib.hid hm; have HPZ := Lib.hid hppz
   clear hl hlt a1 a2 a3 a4 hlo hE hap hR hm hppz
   go_wp2_with fail
   go_at_call 13
   refine HS.out.mono ?_
   rintro r w5 ⟨v1, v2, rfl, own1, own2, hb5⟩
   rw [HRR.out] at own1
   obtain ⟨A1, c1, rfl, -, -⟩ := own_shape_z own1 HM.out
   obtain ⟨n2, hn2⟩ : ∃ n2, (lateL low64 l).length = n2 := ⟨_, rfl⟩
   obtain ⟨A2, c2, rfl, -, z2⟩ := own_shape_z own2 hn2
   have HN2 := Lib.hid hn2; have HZ2 := Lib.hid z2
   rw [hn2] at hll
   clear hn2 z2 HS
   go_wp2_with (at_builtin; refine wpList_appL rc_el rfl (.tmp 62) (.tmp 63) rfl (mb + 1) rcenc_len rc_one (lateQ (ls.take k)) (lateL low64 l) rfl (ows.below hb5) rfl HZ2.out HN2.out (Own.rd rcenc_len own2) (by omega) (by have h1 := hb5.size; have h2 := hlr.1; omega) ?_; intro v7 w7 own7 hgr7 hb7 hl7)
   have hw7 : Below w.heap.size w w7 := (below_then hb hb5).trans (Below.mono hb7 (by rw [HMB.out]; omega))
   have owe7 := (owe.below hb5).grown hgr7 HAP.out
   have own17 := own1.grown hgr7 (apart_new own1 (own_blk ows))
   have hl77 := (hlr.below hb5).grown hgr7 (by intro q hq; rw [List.mem_singleton] at hq; subst hq; exact own_ltf ows (Nat.lt_succ_self mb))
   have hap7 := apart_after (owe.below hb5) HAP.out hl7
   have hrd7 := Own.rd rcenc_len own17
   have HAP7 := Lib.hid hap7
   clear owe own1 own2 hlr hgr7 hb7 hl7 hap7 hb own17 ows hb5
   go_loopw [10, 67] (fun ve i wr => ∃ (j : Nat) (E : List En), j ≤ m ∧ i = .int .i64 j ∧ allE q.wk q.ws q.we [] (ppQ q ls k R j) = some E ∧ Own enenc 11 wr (mb + 1) 62 ve E ∧ (ve.ownBlock = none ∨ ve.ownBlock ≠ v7.ownBlock) ∧ Below w7.heap.size w7 wr) (fun _ i _ => m - (intOf i).toNat)
   case atStart => exact ⟨0, E, Nat.zero_le _, rfl, by rw [HPZ.out]; exact HE.out, owe7, HAP7.out, Below.refl _ _⟩
   case round =>
    obtain ⟨j, E, hj, rfl, hE, owe, hap, hb⟩ := hrel
    clear owe7
    by_cases hjm : j < m
    ·obtain ⟨r, hrj⟩ : ∃ r, R[j]? = some r := ⟨_, List.getElem?_eq_getElem (by rw [HM.out]; exact hjm)⟩
     obtain ⟨b2, o2, rfl, hbb2, g0, g1, g2⟩ := rc_cells (rd_grown hrd7 hb) hrj
     have d2 : decide ((j : Int) < (m : Int)) = true := by simp; omega
     have d2' : decide (j < m) = true := by simp [hjm]
     have j1 : (0 : Int) ≤ (j : Int) := by omega
     have j2 : (j : Int) < (m : Int) := by omega
     have e2 : IntKind.i64.wrap ((j : Int) + 1) = (j : Int) + 1 := IntWalk.i64_in _ (by omega)
     obtain ⟨ne, hne⟩ : ∃ ne, E.length = ne := ⟨_, rfl⟩
     obtain ⟨Ae, ce, rfl, -, ze⟩ := own_shape_z owe hne
     have hne4 : ne ≤ 4000 := by
      obtain ⟨b', hb1, hb2⟩ := HPRE.out _ (HPP.out j)
      rw [hE] at hb1
      have h3 := Option.some.inj hb1
      rw [← hne, h3]; exact hb2
     have hlq := hl77.below hb
     have hwr := below_then hw7 hb
     have hbx : Below w.heap.size w (wr.alloc (.cells #[.int .i64 r.k, .int .i64 r.t, .int .i64 r.v] 47)) := below_new hwr _
     have HJ := Lib.hid hjm; have HRJ := Lib.hid hrj; have HEJ := Lib.hid hE; have HNE := Lib.hid hne; have HZE := Lib.hid ze; have HAPJ := Lib.hid hap
     have hcn := HCN.out r _ hbx
     obtain ⟨oc, hoc⟩ : ∃ oc, cntP q r = oc := ⟨_, rfl⟩
     rw [hoc] at hcn
     have HCNR := Lib.hid hcn; have HOC := Lib.hid hoc
     clear hjm hrj hE hne ze hap hcn hoc hbx
     have hlq1 := hlq.old (.cells #[.int .i64 r.k, .int .i64 r.t, .int .i64 r.v] 47)
     have hF := hlq
     (repeat unfold Loc at hF)
     go_wp2_with fail
     go_at_call 23
     refine HCNR.out.mono ?_
     rintro rr x5 ⟨hrr, hc5⟩
     have hlq5 := hlq1.below hc5
     have hb5 : Below w7.heap.size w7 x5 := hb.trans ((below_new (Below.refl _ _) _).trans (hc5.mono (by simp)) |>.mono hb.size)
     have owe5 := (owe.alloc (.cells #[.int .i64 r.k, .int .i64 r.t, .int .i64 r.v] 47)).below hc5
     clear hF hlq hlq1 hc5 owe hb
     have hF := hlq5
     (repeat unfold Loc at hF)
     cases oc with
     | none =>
      obtain rfl := hrr
      go_wp2_with fail
      go_roundw
      case rel => exact ⟨j + 1, E, HJ.out, by go_num, by rw [pp_skip HRJ.out HOC.out]; exact HEJ.out, owe5.alloc _, HAPJ.out, hb5.alloc hb5.size _⟩
      case measure => simp [intOf]; omega
     | some x =>
      obtain rfl := hrr
      have hpp := pp_take (ls := ls) (i := k) HRJ.out HOC.out
      obtain ⟨E', hE'1, hE'2⟩ := HPRE.out _ (HPP.out (j + 1))
      have hE'3 := hE'1
      rw [hpp] at hE'1
      have hadd := add_of_pp HEJ.out hE'1
      have hx1 : (sideP (onS q k) x).k = x.k := rfl
      have hx2 : (sideP (onS q k) x).t = x.t := rfl
      have hx3 : (sideP (onS q k) x).v = x.v := rfl
      have hx4 : (sideP (onS q k) x).d = onS q k := rfl
      rw [hx1, hx2, hx3, hx4] at hadd
      have hbz : Below x5.heap.size x5 (x5.alloc (.cells #[.int .i64 x.k, .int .i64 x.t, .int .i64 x.v] 47)) := below_new (Below.refl _ _) _
      have hcall := add_any Ae ce ne E q.wk q.ws q.we x.k x.t x.v (onS q k) HWE.out _ HNE.out HZE.out (by omega) (rd_grown (Own.rd enenc_len owe5) hbz)
      unfold AddP at hcall
      rw [hadd] at hcall
      have HADD := Lib.hid hcall; have HE3 := Lib.hid hE'3
      obtain ⟨dd, hdd⟩ : ∃ dd, onS q k = dd := ⟨_, rfl⟩
      rw [hdd] at HADD
      have hd2 : dd = if q.jo = true then (k : Int) else 0 := by rw [← hdd]; rfl
      clear hpp hE'1 hE'2 hE'3 hadd hx1 hx2 hx3 hx4 hcall hdd
      obtain ⟨jb, hjb⟩ : ∃ b, q.jo = b := ⟨_, rfl⟩
      rw [hjb] at hd2 hF
      clear hjb hlq5
      cases jb
      all_goals
       (try simp only [Bool.false_eq_true, if_false, if_true] at hd2)
       subst hd2
       go_wp2_with fail
       go_at_call 24
       refine HADD.out.mono ?_
       rintro rr x6 ⟨v6, rfl, own6, hb6⟩
       have hb66 : Below w7.heap.size w7 x6 := (hb5.alloc hb5.size _).trans (hb6.mono (by have := hb5.size; simp; omega))
       go_wp2_with fail
       go_roundw
       case rel => exact ⟨j + 1, E', HJ.out, by go_num, HE3.out, own6.mono (by have h1 := hb5.size; have h2 := hl77.1; simp; omega), apart_new own6 (fun z hz => by have h1 := own_blk own7 z hz; have h2 := hb5.size; simp; omega), hb66⟩
       case measure => simp [intOf]; omega
    ·obtain rfl : j = m := by omega
     have d2 : decide ((j : Int) < (j : Int)) = false := by simp
     have d2' : decide (j < j) = false := by simp
     go_wp2_with fail
     go_roundw
     case rel => exact ⟨k + 1, E, HL.out, by go_num, by rw [← HPE.out]; exact hE, owe, by rw [HLS.out]; exact own7.below hb, hap, hl77.below hb, below_then hw7 hb⟩
     case measure => simp [intOf]; omega
  ·obtain rfl : k = nb := by omega
   have d1 : decide ((k : Int) < (k : Int)) = false := by simp
   have d1' : decide (k < k) = false := by simp
   have htk : ls.take k = ls := List.take_of_length_le (by rw [HN.out]; exact Nat.le_refl _)
   rw [htk] at hE ows
   have haE : E = a := by
    have h1 := HAA.out
    unfold putsQ at h1
    rw [hE] at h1
    exact Option.some.inj h1
   subst haE
   obtain ⟨ne, hne⟩ : ∃ ne, E.length = ne := ⟨_, rfl⟩
   have hck := enchk_zero.1 HCKA.out
   have hne4 : ne ≤ 4000 := by rw [← hne]; exact hck.1
   obtain ⟨Ae, ce, rfl, -, ze⟩ := own_shape_z owe hne
   have hrE := Own.rd enenc_len owe
   have HNE := Lib.hid hne; have HOK := Lib.hid hck.2.1
   clear hE htk hck hne ze hap hlt
   go_wp2_with fail
   go_loopw [22, 98] (fun vr i wr => ∃ (j : Nat), j ≤ ne ∧ i = .int .i64 j ∧ Own rmenc 5 wr wo.heap.size 65 vr ((E.take j).filterMap (rowE q.jo q.ag)) ∧ Below wo.heap.size wo wr) (fun _ i _ => ne - (intOf i).toNat)
   case atStart => exact ⟨0, Nat.zero_le _, rfl, by simpa using Own.nil _ _ _, Below.refl _ _⟩
   case round =>
    obtain ⟨j, hj, rfl, ownr, hbr⟩ := hrel
    by_cases hjm : j < ne
    ·obtain ⟨x, hxj⟩ : ∃ x, E[j]? = some x := ⟨_, List.getElem?_eq_getElem (by rw [HNE.out]; exact hjm)⟩
     obtain ⟨b2, o2, rfl, hbb2, g0, g1, g2, g3, g4, g5, g6, g7, g8, g9, g10⟩ := en_cells (rd_grown hrE hbr) hxj
     have hxo := enok_iff.1 (HOK.out x (List.mem_of_getElem? hxj))
     have d2 : decide ((j : Int) < (ne : Int)) = true := by simp; omega
     have d2' : decide (j < ne) = true := by simp [hjm]
     have j1 : (0 : Int) ≤ (j : Int) := by omega
     have j2 : (j : Int) < (ne : Int) := by omega
     have e2 : IntKind.i64.wrap ((j : Int) + 1) = (j : Int) + 1 := IntWalk.i64_in _ (by omega)
     have hrw := HRW.out x hxo.2.1 hxo.2.2.1
     obtain ⟨oc, hoc⟩ : ∃ oc, rowE q.jo q.ag x = oc := ⟨_, rfl⟩
     rw [hoc] at hrw
     have htk : (E.take (j + 1)).filterMap (rowE q.jo q.ag) = (E.take j).filterMap (rowE q.jo q.ag) ++ oc.toList := by
      rw [List.take_add_one, hxj, Option.toList, List.filterMap_append]
      cases oc <;> simp [hoc]
     have hrl : ((E.take j).filterMap (rowE q.jo q.ag)).length ≤ 4000 := Nat.le_trans (List.length_filterMap_le _ _) (by rw [List.length_take]; omega)
     have HRWX := Lib.hid hrw; have HTK := Lib.hid htk; have HJ := Lib.hid hjm
     have hlq := hlr.below hbr
     have hlq1 := hlq.old (.cells #[.int .i64 x.k, .int .i64 x.s, .int .i64 x.e, .int .i64 x.c1, .int .i64 x.s1, .int .i64 x.m1, .int .i64 x.x1, .int .i64 x.c2, .int .i64 x.s2, .int .i64 x.m2, .int .i64 x.x2] 62)
     clear hjm hxj hxo hrw hoc htk
     have hF := hlq
     (repeat unfold Loc at hF)
     go_wp2_with fail
     go_at_call 25
     refine (HRWX.out _).mono ?_
     rintro rr x5 ⟨hrr, hc5⟩
     have hb5 : Below wo.heap.size wo x5 := hbr.trans ((below_new (Below.refl _ _) _).trans (hc5.mono (by simp)) |>.mono hbr.size)
     have own5 := (ownr.alloc (.cells #[.int .i64 x.k, .int .i64 x.s, .int .i64 x.e, .int .i64 x.c1, .int .i64 x.s1, .int .i64 x.m1, .int .i64 x.x1, .int .i64 x.c2, .int .i64 x.s2, .int .i64 x.m2, .int .i64 x.x2] 62)).below hc5
     clear hF hlq hlq1 hc5 ownr hbr
     cases oc with
     | none =>
      obtain rfl := hrr
      go_wp2_with fail
      go_roundw
      case rel => exact ⟨j + 1, HJ.out, by go_num, by rw [HTK.out]; simpa using own5.alloc _, hb5.alloc hb5.size _⟩
      case measure => simp [intOf]; omega
     | some y =>
      obtain rfl := hrr
      go_wp2_with (at_builtin; refine wpList_app rm_el rfl (.tmp 109) (.tmp 111) rfl wo.heap.size rmenc_len rm_one ((E.take j).filterMap (rowE q.jo q.ag)) [y] rfl ((own5.alloc _).alloc _) rfl rfl (flat_new _ _ _ _ (by simp) _ rfl) (by omega) (by have := hb5.size; simp; omega) ?_; intro v9 w9 own9 hgr9 hb9 hl9)
      go_roundw
      case rel => exact ⟨j + 1, HJ.out, by go_num, by rw [HTK.out]; exact own9, ((hb5.alloc hb5.size _).alloc (by have := hb5.size; simp; omega) _).trans hb9⟩
      case measure => simp [intOf]; omega
    ·obtain rfl : j = ne := by omega
     have d2 : decide ((j : Int) < (j : Int)) = false := by simp
     have d2' : decide (j < j) = false := by simp
     have htk : E.take j = E := List.take_of_length_le (by rw [HNE.out]; exact Nat.le_refl _)
     rw [htk] at ownr
     have hlq := hlr.below hbr
     have hsz := hlr.1
     clear htk
     have hF := hlq
     (repeat unfold Loc at hF)
     rcases HLA.out with hla | hla
     ·go_wp2_with fail
      go_ret3
      exact ⟨_, _, rfl, ownr.mono (by rw [HMB.out]; omega), by rw [if_neg (by omega)]; exact Own.nil _ _ _, below_then hb hbr⟩
     ·go_wp2_with fail
      go_ret3
      exact ⟨_, _, rfl, ownr.mono (by rw [HMB.out]; omega), by rw [if_pos hla]; exact (ows.below hbr).mono (by rw [HMB.out]; omega), below_then hb hbr⟩
end Go.Proofs.YtnljihjhmgpcoaaGreat
namespace Go.Proofs.YtnljihjhmgpcoaaGreat
open Go Go.RowKit Go.ChangeShapes Go.WideShapes Go.ChangeAt Go.Deep
theorem nd_neq (x y : Nd) (w : World) : (binOp .neq 133 (.agg #[.int .u8 x.k, .int .i64 x.n, .int .i64 x.a, .int .i64 x.b, .int .i64 x.p]) (.agg #[.int .u8 y.k, .int .i64 y.n, .int .i64 y.a, .int .i64 y.b, .int .i64 y.p])).run Tryz.prog w = .ok (.bool (!decide (x = y))) w := by
 obtain ⟨k, n, a, b, p⟩ := x
 obtain ⟨k', n', a', b', p'⟩ := y
 simp only [Nd.mk.injEq]
 go_simp
 by_cases h1 : k = k' <;> by_cases h2 : n = n' <;> by_cases h3 : a = a' <;> by_cases h4 : b = b' <;> by_cases h5 : p = p' <;> simp [h1, h2, h3, h4, h5]
def SomeBP (w : World) (r : Ending) (w' : World) : Prop := ∃ b : Bool, r = .returned (.bool b) ∧ Below w.heap.size w w'
set_option maxHeartbeats 8000000 in
theorem ndeq_any (A A' : Option Addr) (c c' n n' : Nat) (l l' : List Nd) (w : World) (hn : l.length = n) (hn' : l'.length = n') (h60 : n ≤ 60) (hr : Rd nenc 5 w w.heap.size A l) (hr' : Rd nenc 5 w w.heap.size A' l') :
  Calls Tryz.prog 100 #[.slice A n c, .slice A' n' c'] w (SomeBP w) := by
 by_cases hnn : n = n'
 ·subst hnn
  have HN := Lib.hid hn; have HN' := Lib.hid hn'
  have d0 : ((n : Int) != (n : Int)) = false := by simp
  clear hn hn'
  go_enter Tryz.func100, Tryz.ntmps100
  go_wp2_with fail
  go_loopw [13] (fun i wr => ∃ k : Nat, k ≤ n ∧ i = .int .i64 k ∧ Below w.heap.size w wr) (fun i _ => n - (intOf i).toNat)
  case atStart => exact ⟨0, Nat.zero_le _, rfl, Below.refl _ _⟩
  case round =>
   obtain ⟨k, hk, rfl, hb⟩ := hrel
   by_cases hlt : k < n
   ·obtain ⟨x, hx⟩ : ∃ x, l[k]? = some x := ⟨_, List.getElem?_eq_getElem (by rw [HN.out]; exact hlt)⟩
    obtain ⟨y, hy⟩ : ∃ y, l'[k]? = some y := ⟨_, List.getElem?_eq_getElem (by rw [HN'.out]; exact hlt)⟩
    obtain ⟨b1, o1, rfl, hb1, f0, f1, f2, f3, f4⟩ := nd_cells (rd_grown hr hb) hx
    obtain ⟨b2, o2, rfl, hb2, g0, g1, g2, g3, g4⟩ := nd_cells (rd_grown hr' hb) hy
    have d1 : decide ((k : Int) < (n : Int)) = true := by simp; omega
    have d1' : decide (k < n) = true := by simp [hlt]
    have k1 : (0 : Int) ≤ (k : Int) := by omega
    have k2 : (k : Int) < (n : Int) := by omega
    have e1 : IntKind.i64.wrap ((k : Int) + 1) = (k : Int) + 1 := IntWalk.i64_in _ (by omega)
    have hrun := fun W => nd_neq x y W
    obtain ⟨bb, hbb⟩ : ∃ bb, (!decide (x = y)) = bb := ⟨_, rfl⟩
    rw [hbb] at hrun
    have HL := Lib.hid hlt
    clear hlt hx hy hbb
    go_wp2_with fail
    go_quiet (fail)
    cases bb
    ·go_wp2_with fail
     go_roundw
     case rel => exact ⟨k + 1, HL.out, by go_num, bel⟩
     case measure => have := HL.out; simp [intOf]; omega
    ·go_wp2_with fail
     go_ret
     exact ⟨_, rfl, bel⟩
   ·obtain rfl : k = n := by omega
    have d1 : decide ((k : Int) < (k : Int)) = false := by simp
    have d1' : decide (k < k) = false := by simp
    go_wp2_with fail
    go_ret
    exact ⟨_, rfl, hb⟩
 ·have d0 : ((n : Int) != (n' : Int)) = true := by simp; omega
  clear hn hn' hnn hr hr'
  go_enter Tryz.func100, Tryz.ntmps100
  go_wp2_with fail
  go_ret
  exact ⟨_, rfl, Below.refl _ _⟩
/-- A slice that reads, and lies in neither of two boxes. -/
def RdX {α : Type} (enc : α → List Value) (sz qb : Nat) (w : World) (A : Option Addr) (l : List α) : Prop := Rd enc sz w w.heap.size A l ∧ (l ≠ [] → ∀ ad, A = some ad → ad.block ≠ qb ∧ ad.block ≠ qb + 1)
section
variable {α : Type} {enc : α → List Value} {sz qb : Nat} {w w' : World} {A : Option Addr} {l : List α}
theorem RdX.grow (h : RdX enc sz qb w A l) (hb : Below w.heap.size w w') : RdX enc sz qb w' A l := ⟨h.1.grow hb, h.2⟩
theorem RdX.set (h : RdX enc sz qb w A l) {g : Nat} (hg : g = qb ∨ g = qb + 1) (o : Nat) (u : Value) : RdX enc sz qb (w.setCell ⟨g, o, none⟩ u) A l := by
 refine ⟨fun hn => ?_, h.2⟩
 obtain ⟨b, off, rfl, hb, hc⟩ := h.1 hn
 have hne := h.2 hn _ rfl
 simp only at hne
 refine ⟨b, off, rfl, by simpa [World.setCell] using hb, fun k x hx j v hv => (World.cell?_of_block (Below.heap_setCell _ _ _ _ (by simp only; omega))).trans (hc k x hx j v hv)⟩
theorem RdX.of_rd (h : Rd enc sz w qb A l) (hb : qb ≤ w.heap.size) : RdX enc sz qb w A l := by
 refine ⟨h.more hb, fun hn ad had => ?_⟩
 obtain ⟨b, off, e, hb', _⟩ := h hn
 rw [had] at e
 obtain rfl := Option.some.inj e
 simp only; omega
theorem RdX.of_own {base : Nat} {e : TypeId} {n c : Nat} (henc : ∀ x, (enc x).length = sz) (h : Own enc sz w base e (.slice A n c) l) (hb : qb + 2 ≤ base) : RdX enc sz qb w A l := by
 refine ⟨Own.rd henc h, fun hn ad had => ?_⟩
 subst had
 rcases h.2 with ⟨e1, _⟩ | ⟨g, cap, cur, e1, hg, _⟩
 ·cases e1
 ·simp only [Value.slice.injEq, Option.some.injEq] at e1
  rw [e1.1]; simp only; omega
end
/-- A query's slices that lie apart from two boxes. -/
def QRdX (qb : Nat) (w : World) (q : Qy) (A B C : Option Addr) (na ca nb cb nc cc : Nat) : Prop :=
 ((opl q.arg).length = na ∧ (A = none → ca = 0) ∧ na ≤ ca ∧ RdX nenc 5 qb w A (opl q.arg)) ∧ (q.src.length = nb ∧ (B = none → cb = 0) ∧ nb ≤ cb ∧ RdX ienc 1 qb w B q.src) ∧
 ((opl q.wh).length = nc ∧ (C = none → cc = 0) ∧ nc ≤ cc ∧ RdX nenc 5 qb w C (opl q.wh))
theorem QRdX.grow {qb : Nat} {w w' : World} {q : Qy} {A B C : Option Addr} {na ca nb cb nc cc : Nat} (h : QRdX qb w q A B C na ca nb cb nc cc) (hb : Below w.heap.size w w') : QRdX qb w' q A B C na ca nb cb nc cc :=
 ⟨⟨h.1.1, h.1.2.1, h.1.2.2.1, h.1.2.2.2.grow hb⟩, ⟨h.2.1.1, h.2.1.2.1, h.2.1.2.2.1, h.2.1.2.2.2.grow hb⟩, ⟨h.2.2.1, h.2.2.2.1, h.2.2.2.2.1, h.2.2.2.2.2.grow hb⟩⟩
theorem QRdX.set {qb : Nat} {w : World} {q : Qy} {A B C : Option Addr} {na ca nb cb nc cc : Nat} (h : QRdX qb w q A B C na ca nb cb nc cc) {g : Nat} (hg : g = qb ∨ g = qb + 1) (o : Nat) (u : Value) : QRdX qb (w.setCell ⟨g, o, none⟩ u) q A B C na ca nb cb nc cc :=
 ⟨⟨h.1.1, h.1.2.1, h.1.2.2.1, h.1.2.2.2.set hg o u⟩, ⟨h.2.1.1, h.2.1.2.1, h.2.1.2.2.1, h.2.1.2.2.2.set hg o u⟩, ⟨h.2.2.1, h.2.2.2.1, h.2.2.2.2.1, h.2.2.2.2.2.set hg o u⟩⟩
theorem QRdX.out {qb : Nat} {w : World} {q : Qy} {A B C : Option Addr} {na ca nb cb nc cc : Nat} (h : QRdX qb w q A B C na ca nb cb nc cc) : QRd w q A B C na ca nb cb nc cc :=
 ⟨⟨h.1.1, h.1.2.1, h.1.2.2.1, h.1.2.2.2.1⟩, ⟨h.2.1.1, h.2.1.2.1, h.2.1.2.2.1, h.2.1.2.2.2.1⟩, ⟨h.2.2.1, h.2.2.2.1, h.2.2.2.2.1, h.2.2.2.2.2.1⟩⟩
theorem QRdX.of {qb : Nat} {w : World} {q : Qy} {A B C : Option Addr} {na ca nb cb nc cc : Nat} (h : QRd w q A B C na ca nb cb nc cc) (hq : qb = w.heap.size) : QRdX qb w q A B C na ca nb cb nc cc := by
 subst hq
 exact ⟨⟨h.1.1, h.1.2.1, h.1.2.2.1, RdX.of_rd h.1.2.2.2 (Nat.le_refl _)⟩, ⟨h.2.1.1, h.2.1.2.1, h.2.1.2.2.1, RdX.of_rd h.2.1.2.2.2 (Nat.le_refl _)⟩, ⟨h.2.2.1, h.2.2.2.1, h.2.2.2.2.1, RdX.of_rd h.2.2.2.2.2 (Nat.le_refl _)⟩⟩
def RewP (q : Qy) (w : World) (r : Ending) (w' : World) : Prop := ∃ p v, r = .returned (.tuple #[v, .int .i64 0]) ∧ p.good ∧ Qeq q p ∧ QRes w.heap.size p v w' ∧ Below w.heap.size w w'
theorem optFo_refl {o : Option Ex} (h : ∀ e, o = some e → e.good ∧ e.wt = true) : optFo o o := by
 cases o with
 | none => trivial
 | some e => exact Fo.refl (h e rfl).1.1 (h e rfl).2
theorem optFo_good {o p : Option Ex} (h : optFo o p) (hg : ∀ e, o = some e → e.good ∧ e.wt = true) : ∀ e, p = some e → e.tgood := by
 rintro e rfl
 cases o with
 | none => exact h.elim
 | some f => exact ⟨Fo.const h (hg f rfl).1, Fo.wt h⟩
theorem optFo_step {o : Option Ex} {e e' : Ex} (h : optFo o (some e)) (h2 : Fo e e') : optFo o (some e') := by
 cases o with
 | none => exact h.elim
 | some f => exact Fo.trans h h2
theorem Loc.swap {w : World} {x y : Nat × List Value} {l : List (Nat × List Value)} (h : Loc w (x :: y :: l)) : Loc w (y :: x :: l) := by
 obtain ⟨a, b⟩ := x
 obtain ⟨c, d⟩ := y
 obtain ⟨h1, h2, h3, h4, h5, h6, h7⟩ := h
 exact ⟨h4, h5, h6, h1, h2, h3, h7⟩
set_option maxHeartbeats 16000000 in
set_option maxRecDepth 100000 in
theorem fquery_any (q : Qy) (hq : q.good) (A B C : Option Addr) (na ca nb cb nc cc : Nat) (w : World) (h : QRd w q A B C na ca nb cb nc cc) :
  Calls Tryz.prog 98 #[.agg #[.int .u8 q.ag, .slice A na ca, .slice B nb cb, .bool q.jo, .slice C nc cc, .int .u8 q.wk, .int .i64 q.ws, .int .i64 q.we, .bool q.ky, .int .u8 q.la]] w (RewP q w) := by
 have HCK := Lib.hid (fun W (hb : Below w.heap.size w W) => qcheck_any q hq A B C na ca nb cb nc cc W (h.grow hb))
 have HCL := Lib.hid (fun W (hb : Below w.heap.size w W) => inclone_any B cb nb q.src W h.2.1.1 h.2.1.2.1 (by have := hq.src.1.2; rw [h.2.1.1] at this; omega) (h.2.1.2.2.2.grow hb))
 have hxq := QRdX.of h rfl
 have hga : ∀ e, q.arg = some e → e.good ∧ e.wt = true := fun e he => ⟨(hq.arg e he).1, (hq.arg e he).2.1⟩
 have hgw : ∀ e, q.wh = some e → e.good ∧ e.wt = true := fun e he => ⟨(hq.wh e he).1, (hq.wh e he).2.1⟩
 have HGA := Lib.hid hga; have HGW := Lib.hid hgw; have HQ := Lib.hid hq; have HXQ := Lib.hid hxq; have HNB := Lib.hid h.2.1.1
 have hl0 := ((Loc.nil w).new [.int .u8 q.ag, .slice A na ca, .slice B nb cb, .bool q.jo, .slice C nc cc, .int .u8 q.wk, .int .i64 q.ws, .int .i64 q.we, .bool q.ky, .int .u8 q.la] 27).new [.int .u8 0, .slice none 0 0, .slice none 0 0, .bool false, .slice none 0 0, .int .u8 0, .int .i64 0, .int .i64 0, .bool false, .int .u8 0] 27
 rw [World.size_alloc] at hl0
 have hb0 : Below w.heap.size w ((w.alloc (.cells #[.int .u8 q.ag, .slice A na ca, .slice B nb cb, .bool q.jo, .slice C nc cc, .int .u8 q.wk, .int .i64 q.ws, .int .i64 q.we, .bool q.ky, .int .u8 q.la] 27)).alloc (.cells #[.int .u8 0, .slice none 0 0, .slice none 0 0, .bool false, .slice none 0 0, .int .u8 0, .int .i64 0, .int .i64 0, .bool false, .int .u8 0] 27)) := below_new (below_new (Below.refl _ _) _) _
 obtain ⟨qb, hqb⟩ : ∃ qb, w.heap.size = qb := ⟨_, rfl⟩
 have HQB := Lib.hid hqb
 rw [hqb] at hl0
 have hF := hl0
 (repeat unfold Loc at hF)
 clear hga hgw hq hxq h
 go_enter Tryz.func98, Tryz.ntmps98
 (try simp only [hqb])
 go_wp2_with fail
 go_at_call 21
 refine (HCK.out _ hb0).mono ?_
 rintro r x2 ⟨rfl, hb2⟩
 replace hl0 := hl0.below hb2
 have hb3 := below_then hb0 hb2
 clear hF hb2 hb0
 have hF := hl0
 (repeat unfold Loc at hF)
 go_wp2_with fail
 go_at_call 61
 refine (HCL.out _ hb3).mono ?_
 rintro r x4 ⟨v4, rfl, own4, hb4⟩
 obtain ⟨B4, c4, rfl, h4, z4⟩ := own_shape_z own4 HNB.out
 have hl4 := (Loc.swap (hl0.below hb4)).put (by intro z hz; rw [List.mem_singleton] at hz; subst hz; simp only; omega) 2 (.slice B4 nb c4) (by simp)
 have hb5 := below_then hb3 hb4
 have hqx : qb + 2 ≤ x2.heap.size := by have := hl0.1; omega
 have hx4 : QRdX qb (x4.setCell ⟨qb, 2, none⟩ (.slice B4 nb c4)) q A B4 C na ca nb c4 nc cc := by
  have hg := (HXQ.out.grow hb5)
  rw [HQB.out] at hg
  exact ⟨⟨hg.1.1, hg.1.2.1, hg.1.2.2.1, hg.1.2.2.2.set (.inl rfl) _ _⟩, ⟨HNB.out, z4, h4, (RdX.of_own in_len own4 hqx).set (.inl rfl) _ _⟩, ⟨hg.2.2.1, hg.2.2.2.1, hg.2.2.2.2.1, hg.2.2.2.2.2.set (.inl rfl) _ _⟩⟩
 have hb6 : Below w.heap.size w (x4.setCell ⟨qb, 2, none⟩ (.slice B4 nb c4)) := below_put' hb5 (by rw [HQB.out]; exact Nat.le_refl _) _ _
 have hF4 := hl0.below hb4
 (repeat unfold Loc at hF4)
 clear hF
 simp only [List.set_cons_succ, List.set_cons_zero] at hl4
 go_wp2_with fail
 obtain ⟨X5, hX5⟩ : ∃ X, x4.setCell ⟨qb, 2, none⟩ (.slice B4 nb c4) = X := ⟨_, rfl⟩
 rw [hX5] at hl4 hx4 hb6 ⊢
 have hs5 : X5.heap.size = x4.heap.size := by rw [← hX5]; simp [World.setCell]
 have hl6 := hl4.new [.pointer (some ⟨qb, 1, none⟩), .pointer (some ⟨qb, 4, none⟩)] 210
 obtain ⟨pb, hpb⟩ : ∃ pb, X5.heap.size = pb := ⟨_, rfl⟩
 (try rw [← hs5])
 (try simp only [hpb])
 rw [hpb] at hl6
 have hpq : qb + 2 ≤ pb := by have := hb4.size; omega
 have HNB4 := Lib.hid (newB_own own4 (by omega) : NewB qb B4 q.src)
 clear hX5 hl4 hF4 own4 hb5 hb4 hl0 hb3
 go_loopw [27] (fun i wr => ∃ (k : Nat) (oa ow : Option Ex) (A' : Option Addr) (na' ca' : Nat) (C' : Option Addr) (nc' cc' : Nat), k ≤ 2 ∧ i = .int .i64 k ∧ optFo q.arg oa ∧ optFo q.wh ow ∧ ((1 ≤ k → NewB qb A' (opl oa)) ∧ (2 ≤ k → NewB qb C' (opl ow))) ∧ QRdX qb wr { q with arg := oa, wh := ow } A' B4 C' na' ca' nb c4 nc' cc' ∧
   Loc wr [(pb, [.pointer (some ⟨qb, 1, none⟩), .pointer (some ⟨qb, 4, none⟩)]), (qb, [.int .u8 q.ag, .slice A' na' ca', .slice B4 nb c4, .bool q.jo, .slice C' nc' cc', .int .u8 q.wk, .int .i64 q.ws, .int .i64 q.we, .bool q.ky, .int .u8 q.la]), (qb + 1, [.int .u8 0, .slice none 0 0, .slice none 0 0, .bool false, .slice none 0 0, .int .u8 0, .int .i64 0, .int .i64 0, .bool false, .int .u8 0])] ∧ Below w.heap.size w wr) (fun i _ => 2 - (intOf i).toNat)
 case atStart => exact ⟨0, q.arg, q.wh, A, na, ca, C, nc, cc, by omega, rfl, optFo_refl HGA.out, optFo_refl HGW.out, ⟨fun h => by omega, fun h => by omega⟩, hx4.grow (below_new (Below.refl _ _) _), hl6, below_new hb6 _⟩
 case round =>
  obtain ⟨k, oa, ow, A', na', ca', C', nc', cc', hk, rfl, hoa, how, hnw, hx, hlr, hb⟩ := hrel
  have HNW := Lib.hid hnw
  clear hnw
  clear hl6 hb6 hx4
  have hpw : qb + 2 ≤ wr.heap.size := by have := hlr.1; omega
  by_cases hlt : k < 2
  ·clear hk
   rcases (by omega : k = 0 ∨ k = 1) with rfl | rfl
   ·have hF := hlr
    (repeat unfold Loc at hF)
    cases oa with
    | none =>
     obtain rfl : na' = 0 := hx.1.1.symm
     have HREL := Lib.hid (⟨hoa, how, hx⟩ : optFo q.arg none ∧ optFo q.wh ow ∧ QRdX qb wr _ A' B4 C' _ ca' nb c4 nc' cc')
     clear hoa how hx
     go_wp2_with fail
     go_roundw
     case rel => exact ⟨1, none, ow, _, _, _, _, _, _, by omega, by go_num, HREL.out.1, HREL.out.2.1, ⟨fun _ h => absurd rfl h, fun h => by omega⟩, HREL.out.2.2, hlr, hb⟩
     case measure => simp [intOf]
    | some e4 =>
     have hsz : e4.size = na' := by have := hx.1.1; simpa [opl, flat_len] using this
     have htg := optFo_good hoa HGA.out e4 rfl
     have hpos := e4.size_pos
     have HFD := Lib.hid (fold_any e4 htg A' ca' na' wr hsz hx.1.2.2.1 hx.1.2.2.2.1)
     have dn : ((na' : Int) == 0) = false := by simp; omega
     have dn' : (na' == 0) = false := by simp; omega
     have HREL := Lib.hid (⟨hoa, how, hx⟩ : optFo q.arg (some e4) ∧ optFo q.wh ow ∧ QRdX qb wr _ A' B4 C' na' ca' nb c4 nc' cc')
     clear hoa how hx hpos htg hsz
     go_wp2_with fail
     go_at_call 130
     refine HFD.out.mono ?_
     rintro r x5 ⟨v5, e5, rfl, hfo, own5, hb5⟩
     obtain ⟨n5, hn5⟩ : ∃ n5, (e5.flat 0).length = n5 := ⟨_, rfl⟩
     obtain ⟨A5, c5, rfl, h5, z5⟩ := own_shape_z own5 hn5
     have hl5 := hlr.below hb5
     have hb6 := below_then hb hb5
     have hF5 := hl5
     (repeat unfold Loc at hF5)
     have HFO := Lib.hid hfo; have HN5 := Lib.hid hn5
     clear hF hfo hn5
     go_wp2_with fail
     go_roundw
     case rel =>
      have hg := HREL.out.2.2.grow hb5
      refine ⟨1, some e5, ow, A5, n5, c5, C', nc', cc', by omega, by go_num, optFo_step HREL.out.1 HFO.out, HREL.out.2.1, ⟨fun _ => newB_own own5 (by omega), fun h => by omega⟩, ⟨⟨HN5.out, z5, h5, (RdX.of_own nenc_len own5 hpw).set (.inl rfl) _ _⟩, ⟨hg.2.1.1, hg.2.1.2.1, hg.2.1.2.2.1, hg.2.1.2.2.2.set (.inl rfl) _ _⟩, ⟨hg.2.2.1, hg.2.2.2.1, hg.2.2.2.2.1, hg.2.2.2.2.2.set (.inl rfl) _ _⟩⟩, Loc.swap ((Loc.swap hl5).put (by intro z hz; simp only [List.mem_cons, List.not_mem_nil, or_false] at hz; rcases hz with rfl | rfl <;> (simp only; omega)) 1 _ (by simp)), below_put' hb6 (by rw [HQB.out]; exact Nat.le_refl _) _ _⟩
     case measure => simp [intOf]
   ·have hF := hlr
    (repeat unfold Loc at hF)
    cases ow with
    | none =>
     obtain rfl : nc' = 0 := hx.2.2.1.symm
     have HREL := Lib.hid (⟨hoa, how, hx⟩ : optFo q.arg oa ∧ optFo q.wh none ∧ QRdX qb wr _ A' B4 C' na' ca' nb c4 _ cc')
     clear hoa how hx
     go_wp2_with fail
     go_roundw
     case rel => exact ⟨2, oa, none, _, _, _, _, _, _, by omega, by go_num, HREL.out.1, HREL.out.2.1, ⟨fun _ => HNW.out.1 (by omega), fun _ h => absurd rfl h⟩, HREL.out.2.2, hlr, hb⟩
     case measure => simp [intOf]
    | some e4 =>
     have hsz : e4.size = nc' := by have := hx.2.2.1; simpa [opl, flat_len] using this
     have htg := optFo_good how HGW.out e4 rfl
     have hpos := e4.size_pos
     have HFD := Lib.hid (fold_any e4 htg C' cc' nc' wr hsz hx.2.2.2.2.1 hx.2.2.2.2.2.1)
     have dn : ((nc' : Int) == 0) = false := by simp; omega
     have dn' : (nc' == 0) = false := by simp; omega
     have HREL := Lib.hid (⟨hoa, how, hx⟩ : optFo q.arg oa ∧ optFo q.wh (some e4) ∧ QRdX qb wr _ A' B4 C' na' ca' nb c4 nc' cc')
     clear hoa how hx hpos htg hsz
     go_wp2_with fail
     go_at_call 130
     refine HFD.out.mono ?_
     rintro r x5 ⟨v5, e5, rfl, hfo, own5, hb5⟩
     obtain ⟨n5, hn5⟩ : ∃ n5, (e5.flat 0).length = n5 := ⟨_, rfl⟩
     obtain ⟨A5, c5, rfl, h5, z5⟩ := own_shape_z own5 hn5
     have hl5 := hlr.below hb5
     have hb6 := below_then hb hb5
     have hF5 := hl5
     (repeat unfold Loc at hF5)
     have HFO := Lib.hid hfo; have HN5 := Lib.hid hn5
     clear hF hfo hn5
     go_wp2_with fail
     go_roundw
     case rel =>
      have hg := HREL.out.2.2.grow hb5
      refine ⟨2, oa, some e5, A', na', ca', A5, n5, c5, by omega, by go_num, HREL.out.1, optFo_step HREL.out.2.1 HFO.out, ⟨fun _ => HNW.out.1 (by omega), fun _ => newB_own own5 (by omega)⟩, ⟨⟨hg.1.1, hg.1.2.1, hg.1.2.2.1, hg.1.2.2.2.set (.inl rfl) _ _⟩, ⟨hg.2.1.1, hg.2.1.2.1, hg.2.1.2.2.1, hg.2.1.2.2.2.set (.inl rfl) _ _⟩, ⟨HN5.out, z5, h5, (RdX.of_own nenc_len own5 hpw).set (.inl rfl) _ _⟩⟩, Loc.swap ((Loc.swap hl5).put (by intro z hz; simp only [List.mem_cons, List.not_mem_nil, or_false] at hz; rcases hz with rfl | rfl <;> (simp only; omega)) 4 _ (by simp)), below_put' hb6 (by rw [HQB.out]; exact Nat.le_refl _) _ _⟩
     case measure => simp [intOf]
  ·obtain rfl : k = 2 := by omega
   have hF := hlr
   (repeat unfold Loc at hF)
   have HREL := Lib.hid (⟨hoa, how, hx⟩ : optFo q.arg oa ∧ optFo q.wh ow ∧ QRdX qb wr { q with arg := oa, wh := ow } A' B4 C' na' ca' nb c4 nc' cc')
   clear hoa how hx
   go_wp2_with fail
   refine bodyPost_ret (v := _) (by rw [results_cell_tmp Tryz.results98]; go_simp; rfl) rfl ?_
   obtain ⟨h1, h2, h3⟩ := HREL.out
   refine ⟨{ q with arg := oa, wh := ow }, _, rfl, (fold_ok HQ.out h1 h2).1, (fold_ok HQ.out h1 h2).2, ⟨A', B4, C', na', ca', nb, c4, nc', cc', rfl, ?_, by rw [HQB.out]; exact HNW.out.1 (by omega), by rw [HQB.out]; exact HNB4.out, by rw [HQB.out]; exact HNW.out.2 (Nat.le_refl _)⟩, ?_⟩
   ·refine QRdX.out (qb := qb) ?_
    (repeat refine QRdX.set ?_ (.inr rfl) _ _)
    exact h3
   ·(repeat refine below_put' ?_ (by rw [HQB.out]; omega) _ _)
    exact hb
end Go.Proofs.YtnljihjhmgpcoaaGreat
namespace Go.Proofs.YtnljihjhmgpcoaaGreat
open Go.RowKit Go.ChangeShapes Go.WideShapes Go.ChangeAt Go.Deep
set_option maxHeartbeats 64000000 in
set_option maxRecDepth 100000 in
theorem twin_any (q : Qy) (hq : q.good) (A B C : Option Addr) (na ca nb cb nc cc : Nat) (w : World) (h : QRd w q A B C na ca nb cb nc cc) :
  Calls Tryz.prog 97 #[.agg #[.int .u8 q.ag, .slice A na ca, .slice B nb cb, .bool q.jo, .slice C nc cc, .int .u8 q.wk, .int .i64 q.ws, .int .i64 q.we, .bool q.ky, .int .u8 q.la]] w (TwinP q w) := by
 obtain ⟨⟨a1, a2, a3, a4⟩, ⟨b1, b2, b3, b4⟩, ⟨c1, c2, c3, c4⟩⟩ := h
 have hs1 : na ≤ 60 := by
  rw [← a1]; cases ha : q.arg with
  | none => simp [opl]
  | some e => have := (hq.arg e ha).1.2.1; simpa [opl, flat_len] using this
 have hs2 : nc ≤ 60 := by
  rw [← c1]; cases ha : q.wh with
  | none => simp [opl]
  | some e => have := (hq.wh e ha).1.2.1; simpa [opl, flat_len] using this
 have hs3 : nb ≤ 4 := by rw [← b1]; exact hq.src.1.2
 have HA := Lib.hid (fun W (hb : Below w.heap.size w W) => ndclone_any A ca na (opl q.arg) W a1 a2 (by omega) (a4.grow hb))
 have HB := Lib.hid (fun W (hb : Below w.heap.size w W) => inclone_any B cb nb q.src W b1 b2 (by omega) (b4.grow hb))
 have HCC := Lib.hid (fun W (hb : Below w.heap.size w W) => ndclone_any C cc nc (opl q.wh) W c1 c2 (by omega) (c4.grow hb))
 have HNA := Lib.hid a1; have HNB := Lib.hid b1; have HNC := Lib.hid c1
 obtain ⟨qb, hqb⟩ : ∃ qb, w.heap.size = qb := ⟨_, rfl⟩
 have HQB := Lib.hid hqb
 have hl0 := ((Loc.nil w).new [.int .u8 q.ag, .slice A na ca, .slice B nb cb, .bool q.jo, .slice C nc cc, .int .u8 q.wk, .int .i64 q.ws, .int .i64 q.we, .bool q.ky, .int .u8 q.la] 27).new [.int .u8 0, .slice none 0 0, .slice none 0 0, .bool false, .slice none 0 0, .int .u8 0, .int .i64 0, .int .i64 0, .bool false, .int .u8 0] 27
 rw [World.size_alloc, hqb] at hl0
 replace hl0 := Loc.swap hl0
 have hb0 : Below w.heap.size w ((w.alloc (.cells #[.int .u8 q.ag, .slice A na ca, .slice B nb cb, .bool q.jo, .slice C nc cc, .int .u8 q.wk, .int .i64 q.ws, .int .i64 q.we, .bool q.ky, .int .u8 q.la] 27)).alloc (.cells #[.int .u8 0, .slice none 0 0, .slice none 0 0, .bool false, .slice none 0 0, .int .u8 0, .int .i64 0, .int .i64 0, .bool false, .int .u8 0] 27)) := below_new (below_new (Below.refl _ _) _) _
 have hsx := Nat.succ_le_of_lt hl0.2.2.2.1
 clear a1 a2 a3 a4 b1 b2 b3 b4 c1 c2 c3 c4 hs1 hs2 hs3
 go_enter Tryz.func97, Tryz.ntmps97
 (try simp only [hqb])
 go_wp2_with fail
 obtain ⟨lE, hE, hR⟩ := Env.abs (w0 := w) hb0 hl0
 have hR0 := hR
 (repeat unfold Loc at hR)
 refine wp_region_L (by kernel_rfl) (PhS [2, 5, 8] (Env w lE)) ?_
 refine lT 0 ?_; refine lT 3 ?_; refine lT 6 ?_
 refine lL 1 2 ?_
 refine lL 4 5 ?_
 refine lL 7 8 ?_
 refine lC 2 fun K hK => ?_; go_simp
 go_at_call 60
 refine (HA.out _ bel).mono ?_
 rintro r x3 ⟨v1, rfl, own1, hb4⟩
 obtain ⟨A1, g1, rfl, k1, y1⟩ := own_shape_z own1 HNA.out
 have hE1 : Env w lE x3 := Env.step hb4 (by (first | assumption | exact Env.step (by assumption) (by assumption) | exact Env.old (by assumption) _ | exact Env.drew hE | exact hE | exact Env.drew (by assumption) | exact Env.drew (Env.old (by assumption) _) | ((repeat first | refine Env.far0 ?_ (by assumption) _ | refine Env.far1 ?_ (by assumption) _ | refine Env.farA ?_ (by assumption) _); assumption)))
 replace own1 := own1.mono (base' := qb + 2) (by exact hsx)
 (refine lKp hK ?_; clear hK K)
 refine lT 9 ?_
 refine lC 5 fun K hK => ?_; go_simp
 go_at_call 61
 refine (HB.out _ hE1.below).mono ?_
 rintro r x4 ⟨v2, rfl, own2, hb5⟩
 obtain ⟨B1, g2, rfl, k2, y2⟩ := own_shape_z own2 HNB.out
 have hE2 : Env w lE x4 := Env.step hb5 hE1
 replace own2 := own2.mono (base' := qb + 2) (by exact Nat.le_trans hsx hb4.size)
 (refine lKp hK ?_; clear hK K)
 refine lC 8 fun K hK => ?_; go_simp
 go_at_call 60
 refine (HCC.out _ hE2.below).mono ?_
 rintro r x5 ⟨v3, rfl, own3, hb6⟩
 obtain ⟨C1, g3, rfl, k3, y3⟩ := own_shape_z own3 HNC.out
 have hE3 : Env w lE x5 := Env.step hb6 hE2
 replace own3 := own3.mono (base' := qb + 2) (by exact Nat.le_trans hsx (Nat.le_trans hb4.size hb5.size))
 (refine lKp hK ?_; clear hK K)
 refine lC 10 fun K hK => ?_; go_simp
 (refine lKp hK ?_; clear hK K)
 refine lT 11 ?_
 refine lC 12 fun K hK => ?_; go_simp
 (refine lKp hK ?_; clear hK K)
 refine lT 13 ?_
 refine lC 14 fun K hK => ?_; go_simp
 (refine lKp hK ?_; clear hK K)
 refine lDone (by kernel_rfl) ?_ _
 obtain ⟨Z, hZ, hlZ, hbZ, o1, o2, o3⟩ : ∃ Z, Z = ((x5.setCell ⟨qb, 1, none⟩ (.slice A1 na g1)).setCell ⟨qb, 2, none⟩ (.slice B1 nb g2)).setCell ⟨qb, 4, none⟩ (.slice C1 nc g3) ∧ Loc Z [(qb, [.int .u8 q.ag, .slice A1 na g1, .slice B1 nb g2, .bool q.jo, .slice C1 nc g3, .int .u8 q.wk, .int .i64 q.ws, .int .i64 q.we, .bool q.ky, .int .u8 q.la]), (qb + 1, [.int .u8 0, .slice none 0 0, .slice none 0 0, .bool false, .slice none 0 0, .int .u8 0, .int .i64 0, .int .i64 0, .bool false, .int .u8 0])] ∧ Below w.heap.size w Z ∧
   Own nenc 5 Z (qb + 2) 133 (.slice A1 na g1) (opl q.arg) ∧ Own ienc 1 Z (qb + 2) 3 (.slice B1 nb g2) q.src ∧ Own nenc 5 Z (qb + 2) 133 (.slice C1 nc g3) (opl q.wh) := by
  have hne : ∀ z ∈ ([(qb + 1, [.int .u8 0, .slice none 0 0, .slice none 0 0, .bool false, .slice none 0 0, .int .u8 0, .int .i64 0, .int .i64 0, .bool false, .int .u8 0])] : List (Nat × List Value)), z.1 ≠ qb := by simp
  refine ⟨_, rfl, (((hR0 _ hE3).put hne 1 _ (by simp)).put hne 2 _ (by simp)).put hne 4 _ (by simp), ?_, ?_, ?_, ?_⟩
  ·(repeat refine below_put' ?_ (by rw [HQB.out]; exact Nat.le_refl _) _ _)
   exact hE3.below
  ·(repeat refine own_far_set ?_ (by omega) _)
   exact (own1.below hb5).below hb6
  ·(repeat refine own_far_set ?_ (by omega) _)
   exact own2.below hb6
  ·(repeat refine own_far_set ?_ (by omega) _)
   exact own3
 rw [← hZ]
 clear hZ hE hE1 hE2 hE3 hR hR0 own1 own2 own3 hb4 hb5 hb6
 have hF := hlZ
 (repeat unfold Loc at hF)
 go_wp2_with fail
 refine bodyPost_ret (v := _) (by rw [results_cell1 Tryz.results97]; go_simp; rfl) rfl ?_
 refine ⟨_, rfl, ⟨A1, B1, C1, na, g1, nb, g2, nc, g3, rfl, ⟨⟨HNA.out, y1, k1, Own.rd nenc_len (base := qb + 2) (e := 133) (A := A1) (n := na) (c := g1) ?_⟩, ⟨HNB.out, y2, k2, Own.rd in_len (base := qb + 2) (e := 3) (A := B1) (n := nb) (c := g2) ?_⟩, ⟨HNC.out, y3, k3, Own.rd nenc_len (base := qb + 2) (e := 133) (A := C1) (n := nc) (c := g3) ?_⟩⟩, newB_own o1 (by omega), newB_own o2 (by omega), newB_own o3 (by omega)⟩, ?_⟩
 ·(repeat refine own_far_set ?_ (by omega) _); exact o1
 ·(repeat refine own_far_set ?_ (by omega) _); exact o2
 ·(repeat refine own_far_set ?_ (by omega) _); exact o3
 ·(repeat refine below_put' ?_ (by rw [HQB.out]; exact Nat.le_succ _) _ _); exact hbZ
end Go.Proofs.YtnljihjhmgpcoaaGreat
