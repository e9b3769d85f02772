/- Lemmas and contracts for the statement, joined into one text: TopMean, TopWalk24. The conditions of each stand at its head. -/
import Derived.Test.YtnljihjhmgpcoaaGreatJ1
import Derived.Test.YtnljihjhmgpcoaaGreatJ41
import Derived.Test.YtnljihjhmgpcoaaGreatJ43
import Derived.Test.YtnljihjhmgpcoaaGreatJ46
import Derived.Test.YtnljihjhmgpcoaaGreatJ36
import Derived.Test.YtnljihjhmgpcoaaGreatJ48
import Derived.Test.YtnljihjhmgpcoaaGreatJ29
namespace Go.Proofs.YtnljihjhmgpcoaaGreat
open Go Go.RowKit Go.ChangeShapes Go.WideShapes Go.ChangeAt Go.Deep
theorem cnt_form {o : Option Pt} {w w' : World} {r : Ending} (h : CntP o w r w') : ∃ (k t v : Int) (b : Bool), r = .returned (.tuple #[.agg #[.int .i64 k, .int .i64 t, .int .i64 v], .bool b]) ∧ ((∃ x : Pt, o = some x ∧ b = true ∧ k = x.k ∧ t = x.t ∧ v = x.v) ∨ (o = none ∧ b = false)) ∧ Below w.heap.size w w' := by
 obtain ⟨h1, h2⟩ := h
 cases o with
 | none => exact ⟨0, 0, 0, false, h1, .inr ⟨rfl, rfl⟩, h2⟩
 | some x => exact ⟨x.k, x.t, x.v, true, h1, .inl ⟨x, rfl, rfl, rfl, rfl, rfl⟩, h2⟩
set_option maxHeartbeats 64000000 in
set_option maxRecDepth 100000 in
theorem topmean_any (ag : Int) (arg : List Nd) (src : List Int) (jo : Bool) (wh : List Nd) (wk ws we : Int) (ky : Bool) (la : Int) (hwe : (Lit.int .i64 we).wf = true) (ha64 : ∀ x ∈ arg, n64 x) (hw64 : ∀ x ∈ wh, n64 x)
  (A B C I : Option Addr) (na ca nb cb nc cc n ci : Nat) (ls : List (List Evt)) (m : Int) (w : World) (hn : ls.length = n) (hmax : n ≤ 9223372036854775807) (h : QArgs w arg src wh A B C na nb nc) (hs : SlicesOk A B C na ca nb cb nc cc) (hr : RdL etenc 5 w I ls) (h64 : evs64 ls) :
  Calls Tryz.prog 3 #[.agg #[.int .u8 ag, .slice A na ca, .slice B nb cb, .bool jo, .slice C nc cc, .int .u8 wk, .int .i64 ws, .int .i64 we, .bool ky, .int .u8 la], .slice I n ci, .int .i64 m] w fun r w' => r = .returned (.bool true) ∧ Below w.heap.size w w' := by
 have hl0 := (Loc.nil w).new [.int .u8 ag, .slice A na ca, .slice B nb cb, .bool jo, .slice C nc cc, .int .u8 wk, .int .i64 ws, .int .i64 we, .bool ky, .int .u8 la] 27
 have hb0 : Below w.heap.size w (w.alloc (.cells #[.int .u8 ag, .slice A na ca, .slice B nb cb, .bool jo, .slice C nc cc, .int .u8 wk, .int .i64 ws, .int .i64 we, .bool ky, .int .u8 la] 27)) := below_new (Below.refl _ _) _
 have HG21 := Lib.hid (fun W (hb : Below w.heap.size w W) => rgreat21_any I ci n ls W hn hmax (hr.grow hb))
 have HASK := Lib.hid (fun W (hb : Below w.heap.size w W) => rasked21_any ag arg src jo wh wk ws we ky la hwe ha64 hw64 A B C I na ca nb cb nc cc n ci ls W hn hmax (h.grow hb) (hr.grow hb))
 have HQA := Lib.hid h; have HN := Lib.hid hn; have HR := Lib.hid hr; have HS := Lib.hid hs; have H64 := Lib.hid h64
 clear hwe ha64 hw64 h hs h64 hn hr
 go_enter Tryz.func3, Tryz.ntmps3
 go_wp2_with fail
 go_at_call 4
 refine (alive24_any _).mono ?_
 rintro r x1 ⟨rfl, hc⟩
 replace hl0 := hl0.below hc
 replace hb0 := below_then hb0 hc
 clear hc
 have hF := hl0
 (repeat unfold Loc at hF)
 go_wp2_with fail
 go_at_call 5
 refine (rgreat8_any _ _ _ _ _ _ _ _ _ _ _ _ _ _ _ _ _).mono ?_
 rintro r x2 ⟨⟨b1, rfl⟩, hc⟩
 replace hl0 := hl0.below hc
 replace hb0 := below_then hb0 hc
 clear hc hF
 have hF := hl0
 (repeat unfold Loc at hF)
 cases b1 with
 | true =>
  go_wp2_with fail
  go_ret
  exact ⟨rfl, hb0⟩
 | false =>
 go_wp2_with fail
 go_at_call 6
 refine (HG21.out _ hb0).mono ?_
 rintro r x3 ⟨⟨b2, rfl, -⟩, hc⟩
 replace hl0 := hl0.below hc
 replace hb0 := below_then hb0 hc
 clear hc hF HG21
 have hF := hl0
 (repeat unfold Loc at hF)
 cases b2 with
 | true =>
  go_wp2_with fail
  go_ret
  exact ⟨rfl, hb0⟩
 | false =>
 go_wp2_with fail
 go_at_call 7
 refine (HASK.out _ hb0).mono ?_
 rintro r x4 ⟨e4, rfl, hask, hc⟩
 replace hl0 := hl0.below hc
 replace hb0 := below_then hb0 hc
 clear hc hF HASK
 have hF := hl0
 (repeat unfold Loc at hF)
 by_cases he4 : e4 = 0
 rotate_left
 ·have dz : (e4 != 0) = true := by simp [he4]
  clear he4 hask
  go_wp2_with fail
  go_ret
  exact ⟨rfl, hb0⟩
 subst he4
 obtain ⟨⟨q, hq, rfl, rfl, rfl, rfl, rfl, rfl, rfl, rfl, rfl, rfl⟩, hnn, hev⟩ := hask rfl
 clear hask
 by_cases hm1 : m < 1
 ·have dm : decide (m < 1) = true := by simp [hm1]
  clear hm1 hnn hev hq
  go_wp2_with fail
  go_ret
  exact ⟨rfl, hb0⟩
 by_cases hm3 : 3 < m
 ·have dm : decide (m < 1) = false := by simp; omega
  have dm3 : decide (3 < m) = true := by simp [hm3]
  clear hm1 hm3 hnn hev hq
  go_wp2_with fail
  go_ret
  exact ⟨rfl, hb0⟩
 obtain ⟨M, rfl⟩ : ∃ M : Nat, m = M := ⟨m.toNat, by omega⟩
 subst hnn
 have dm : decide ((M : Int) < 1) = false := by simp; omega
 have dm' : decide (M < 1) = false := by simp; omega
 have dm3 : decide (3 < (M : Int)) = false := by simp; omega
 have dm3' : decide (3 < M) = false := by simp; omega
 have hM : 1 ≤ M ∧ M ≤ 3 := by omega
 have hQ : QRd x4 q A B C na ca n cb nc cc := by
  have h1 := HQA.out.grow hb0
  have h2 := HS.out
  exact ⟨⟨h1.1.1, h2.1.1, h2.1.2, h1.1.2⟩, ⟨h1.2.1.1, h2.2.1.1, h2.2.1.2, h1.2.1.2⟩, ⟨h1.2.2.1, h2.2.2.1, h2.2.2.2, h1.2.2.2⟩⟩
 have hlen : ls.length = q.src.length := by rw [HN.out, hQ.2.1.1]
 have hR : RdL etenc 5 x4 I ls := HR.out.grow hb0
 obtain ⟨a, ha, hck, hia, hal, hpre⟩ := mall_hyps hq (ls := ls) hlen hev
 have HM := Lib.hid (fun W (hb : Below x4.heap.size x4 W) => mall_any q hq ls hlen hev a hpre ha hck A B C I na ca n cb nc cc n ci W HN.out (hQ.grow hb) (hR.grow hb))
 have HRA := Lib.hid (fun W (hb : Below x4.heap.size x4 W) => rall_any q hq A B C na ca n cb nc cc W (hQ.grow hb))
 have HDR := Lib.hid (fun W (hb : Below x4.heap.size x4 W) => drawn24_any q hq M hM A B C I na ca n cb nc cc ci W (hQ.grow hb))
 have HCN := Lib.hid (fun r W (hb : Below x4.heap.size x4 W) => tcounts_any q hq r A B C na ca n cb nc cc W (hQ.grow hb))
 have HQ := Lib.hid hq; have HLEN := Lib.hid hlen; have HEV := Lib.hid hev; have HA := Lib.hid ha; have HCK := Lib.hid hck; have HIA := Lib.hid hia; have HAL := Lib.hid hal; have HRR := Lib.hid hR
 clear hq hlen hev ha hck hia hal hpre hR hQ hM HQA HS HR hm1 hm3
 obtain ⟨wz, hwz⟩ : ∃ x, x = x4 := ⟨_, rfl⟩
 have hz0 : Below wz.heap.size wz x4 := by rw [hwz]; exact Below.refl _ _
 rw [← hwz] at HM HRA HDR HCN HRR
 have HB0 := Lib.hid (show Below w.heap.size w wz by rw [hwz]; exact hb0)
 clear hwz hb0
 go_wp2_with fail
 go_at_call 8
 refine (HM.out _ hz0).mono ?_
 rintro r x5 ⟨v8, v9, rfl, own8, own9, hc⟩
 replace hl0 := hl0.below hc
 replace hz0 := below_then hz0 hc
 clear hc hF HM
 have hF := hl0
 (repeat unfold Loc at hF)
 go_wp2_with fail
 go_at_call 9
 refine (HRA.out _ hz0).mono ?_
 rintro r x6 ⟨p, v, A', B', C', na', ca', nb', cb', nc', cc', rfl, hpg, ⟨hpe, -⟩, rfl, hqp, hc⟩
 replace hl0 := (hl0.below hc).old (.cells #[.int .u8 p.ag, .slice A' na' ca', .slice B' nb' cb', .bool p.jo, .slice C' nc' cc', .int .u8 p.wk, .int .i64 p.ws, .int .i64 p.we, .bool p.ky, .int .u8 p.la] 27)
 have hlp := (Loc.nil x6).new [.int .u8 p.ag, .slice A' na' ca', .slice B' nb' cb', .bool p.jo, .slice C' nc' cc', .int .u8 p.wk, .int .i64 p.ws, .int .i64 p.we, .bool p.ky, .int .u8 p.la] 27
 have hby : Below x6.heap.size x6 (x6.alloc (.cells #[.int .u8 p.ag, .slice A' na' ca', .slice B' nb' cb', .bool p.jo, .slice C' nc' cc', .int .u8 p.wk, .int .i64 p.ws, .int .i64 p.we, .bool p.ky, .int .u8 p.la] 27)) := below_new (Below.refl _ _) _
 replace hz0 := below_new (below_then hz0 hc) (.cells #[.int .u8 p.ag, .slice A' na' ca', .slice B' nb' cb', .bool p.jo, .slice C' nc' cc', .int .u8 p.wk, .int .i64 p.ws, .int .i64 p.we, .bool p.ky, .int .u8 p.la] 27)
 replace own8 := (own8.below hc).below hby
 replace own9 := (own9.below hc).below hby
 replace hqp := hqp.grow hby
 clear hc hby hF HRA
 have hF := hl0
 (repeat unfold Loc at hF)
 have hG := hlp
 (repeat unfold Loc at hG)
 go_upto_region 6 with (fail)
 obtain ⟨pb, hpb⟩ : ∃ pb, x6.heap.size = pb := ⟨_, rfl⟩
 (try simp only [hpb])
 rw [hpb] at hlp hG
 generalize hX : x6.alloc (.cells #[.int .u8 p.ag, .slice A' na' ca', .slice B' nb' cb', .bool p.jo, .slice C' nc' cc', .int .u8 p.wk, .int .i64 p.ws, .int .i64 p.we, .bool p.ky, .int .u8 p.la] 27) = x7 at hl0 hlp hF hG hz0 own8 own9 hqp ⊢
 clear hX hpb
 have hap := same_rows HQ.out hpg hpe HLEN.out HEV.out HA.out
 obtain ⟨b, hb1, hbck, hbi, hbl, hbpre⟩ := mall_hyps hpg (ls := ls) (by rw [hpe.src]; exact HLEN.out) HEV.out
 rw [hap] at hb1
 obtain rfl := Option.some.inj hb1
 have HM2 := Lib.hid (mall_any p hpg ls (by rw [hpe.src]; exact HLEN.out) HEV.out a hbpre hap hbck A' B' C' I na' ca' nb' cb' nc' cc' n ci x7 HN.out hqp (HRR.out.grow hz0))
 have HPE := Lib.hid hpe
 clear hap hb1 hbck hbi hbl hbpre hqp hpg hpe
 go_wp2_with fail
 go_at_call 8
 refine HM2.out.mono ?_
 rintro r x8 ⟨v13, v14, rfl, own13, own14, hc⟩
 replace hl0 := hl0.below hc
 replace hz0 := below_then hz0 hc
 replace own8 := own8.below hc
 replace own9 := own9.below hc
 rw [HPE.out.jo, HPE.out.ag] at own13
 rw [HPE.out.la] at own14
 clear hc hF hG hlp HM2 HPE
 have hF := hl0
 (repeat unfold Loc at hF)
 obtain ⟨rws, hrws⟩ : ∃ l, a.filterMap (rowE q.jo q.ag) = l := ⟨_, rfl⟩
 obtain ⟨sid, hsid⟩ : ∃ l, (if q.la = 2 then lateQ ls else []) = l := ⟨_, rfl⟩
 rw [hrws] at own8 own13
 rw [hsid] at own9 own14
 obtain ⟨nr, hnr⟩ : ∃ n, rws.length = n := ⟨_, rfl⟩
 obtain ⟨ns, hns⟩ : ∃ n, sid.length = n := ⟨_, rfl⟩
 obtain ⟨A8, c8, rfl, -, z8⟩ := own_shape_z own8 hnr
 obtain ⟨A9, c9, rfl, -, z9⟩ := own_shape_z own9 hns
 obtain ⟨A13, c13, rfl, -, z13⟩ := own_shape_z own13 hnr
 obtain ⟨A14, c14, rfl, -, z14⟩ := own_shape_z own14 hns
 have hrd8 := Own.rd rmenc_len own8
 have hnr4 : nr ≤ 4000 := by rw [← hnr, ← hrws]; exact Nat.le_trans (List.length_filterMap_le _ _) HAL.out
 have hns4 : ns ≤ 240 := by
  rw [← hns, ← hsid]
  split
  ·have h1 := late_len ls (fun l hl => (HEV.out l hl).1)
   have h2 : ls.length * 60 ≤ 4 * 60 := Nat.mul_le_mul (by rw [HLEN.out]; exact HQ.out.src.1.2) (Nat.le_refl _)
   omega
  ·simp
 have HS10 := Lib.hid (fun W (hb : Below x8.heap.size x8 W) => rsame21_any A8 A13 c8 c13 nr rws W (hrd8.grow hb) ((Own.rd rmenc_len own13).grow hb) hnr (by omega))
 have HS11 := Lib.hid (fun W (hb : Below x8.heap.size x8 W) => rsame20_any A9 A14 c9 c14 ns sid W ((Own.rd rcenc_len own9).grow hb) ((Own.rd rcenc_len own14).grow hb) hns (by omega))
 have HRD8 := Lib.hid hrd8; have HNR := Lib.hid hnr; have HNS := Lib.hid hns; have HRWS := Lib.hid hrws; have HSID := Lib.hid hsid
 clear hrd8 own9 own14 own13 own8 hrws hsid hnr hns
 have hy0 : Below x8.heap.size x8 x8 := Below.refl _ _
 go_wp2_with fail
 go_at_call 10
 refine (HS10.out _ hy0).mono ?_
 rintro r x9 ⟨rfl, hc⟩
 replace hl0 := hl0.below hc
 replace hz0 := below_then hz0 hc
 replace hy0 := below_then hy0 hc
 clear hc hF HS10
 have hF := hl0
 (repeat unfold Loc at hF)
 go_wp2_with fail
 go_at_call 11
 refine (HS11.out _ hy0).mono ?_
 rintro r x10 ⟨rfl, hc⟩
 replace hl0 := hl0.below hc
 replace hz0 := below_then hz0 hc
 replace hy0 := below_then hy0 hc
 clear hc hF HS11
 have hF := hl0
 (repeat unfold Loc at hF)
 go_wp2_with fail
 go_at_call 12
 refine (HDR.out _ hz0).mono ?_
 rintro r x11 ⟨rfl, hc⟩
 replace hl0 := hl0.below hc
 replace hz0 := below_then hz0 hc
 replace hy0 := below_then hy0 hc
 clear hc hF HDR
 have hF := hl0
 (repeat unfold Loc at hF)
 go_wp2_with fail
 have hy11 := hy0
 obtain ⟨sb, hsb⟩ : ∃ sb, x11.heap.size = sb := ⟨_, rfl⟩
 have HSB := Lib.hid hsb
 have HZ0 := Lib.hid hz0; have HY0 := Lib.hid hy0; have HL0 := Lib.hid hl0
 clear hz0 hy0 hy11 hl0 hsb
 go_loopw [16, 17, 18, 19, 20, 21, 22, 23, 24] (fun vl bh i _ _ _ _ _ _ wr => ∃ k : Nat, k ≤ n ∧ i = .int .i64 k ∧ Own rcenc 3 wr sb 47 vl (cntL q (ls.take k)) ∧ bh = .int .i64 ((lateQ (ls.take k)).length : Nat) ∧ Below x11.heap.size x11 wr) (fun _ _ i _ _ _ _ _ _ _ => n - (intOf i).toNat)
 case atStart => exact ⟨0, Nat.zero_le _, rfl, Own.nil _ _ _, rfl, Below.refl _ _⟩
 case round =>
  obtain ⟨k, hk, rfl, own, rfl, hb⟩ := hrel
  clear hF
  have hsbw : sb ≤ wr.heap.size := by rw [← HSB.out]; exact hb.size
  obtain ⟨bn, hbn⟩ : ∃ bn, (lateQ (ls.take k)).length = bn := ⟨_, rfl⟩
  rw [hbn]
  by_cases hlt : k < n
  ·obtain ⟨l, hl⟩ : ∃ l, ls[k]? = some l := ⟨_, List.getElem?_eq_getElem (by rw [HN.out]; exact hlt)⟩
   have hbz := below_then HZ0.out hb
   obtain ⟨b, off, Al, nl, cl, rfl, hbb, f0, a1, a2, a3, a4⟩ := (HRR.out.grow hbz).at_ hl
   have hlo := HEV.out l (List.mem_of_getElem? hl)
   have HSP := Lib.hid (lsplit_any Al cl nl l wr a1 (by rw [← a1]; exact hlo.1) hlo.2 a4)
   have hn4 : n ≤ 4 := by rw [← HN.out, HLEN.out]; exact HQ.out.src.1.2
   have d1 : decide ((k : Int) < (n : Int)) = true := by simp; omega
   have d1' : decide (k < n) = true := by simp [hlt]
   have k1 : (0 : Int) ≤ (k : Int) := by omega
   have k2 : (k : Int) < (n : Int) := by omega
   have e1 : IntKind.i64.wrap ((k : Int) + 1) = (k : Int) + 1 := IntWalk.i64_in _ (by omega)
   obtain ⟨R, hR⟩ : ∃ R, rightL low64 l = R := ⟨_, rfl⟩
   obtain ⟨mr, hmr⟩ : ∃ m, R.length = m := ⟨_, rfl⟩
   obtain ⟨n2, hn2⟩ : ∃ n2, (lateL low64 l).length = n2 := ⟨_, rfl⟩
   have hmr60 : mr ≤ 60 := by rw [← hmr, ← hR]; exact Nat.le_trans (rightL_len l low64) hlo.1
   have hn260 : n2 ≤ 60 := by rw [← hn2]; exact Nat.le_trans (lateL_len l low64) hlo.1
   have hbn240 : bn ≤ 240 := by
    rw [← hbn]
    have := late_len (ls.take k) (fun x hx => (HEV.out x (List.mem_of_mem_take hx)).1)
    rw [List.length_take] at this
    have h3 : min k ls.length * 60 ≤ 4 * 60 := Nat.mul_le_mul (by omega) (Nat.le_refl _)
    omega
   have e2 : IntKind.i64.wrap ((bn : Int) + (n2 : Int)) = ((bn + n2 : Nat) : Int) := (IntWalk.i64_in _ (by omega)).trans (by omega)
   have hbnx : (lateQ (ls.take (k + 1))).length = bn + n2 := by rw [late_succ hl, List.length_append, hbn, hn2]
   have hcx : cntL q (ls.take (k + 1)) = cntL q (ls.take k) ++ R.filterMap (cntP q) := by rw [cntL_succ hl, hR]
   have hcl : (cntL q (ls.take k)).length ≤ 240 := by
    have := cntL_len q (ls.take k) (fun x hx => (HEV.out x (List.mem_of_mem_take hx)).1)
    rw [List.length_take] at this
    have h3 : min k ls.length * 60 ≤ 4 * 60 := Nat.mul_le_mul (by omega) (Nat.le_refl _)
    omega
   have HRL := Lib.hid hR; have HLT := Lib.hid hlt; have HMR := Lib.hid hmr; have HN2 := Lib.hid hn2; have HBNX := Lib.hid hbnx; have HCX := Lib.hid hcx
   clear hl hlt a1 a2 a3 a4 hlo hR hmr hn2 hbn hbnx hcx
   go_wp2_with fail
   go_at_call 13
   refine HSP.out.mono ?_
   rintro r x12 ⟨v1, v2, rfl, own1, own2, hc⟩
   rw [HRL.out] at own1
   obtain ⟨rb, hrb⟩ : ∃ rb, wr.heap.size = rb := ⟨_, rfl⟩
   rw [hrb] at own1
   obtain ⟨A1, c1, rfl, -, -⟩ := own_shape_z own1 HMR.out
   obtain ⟨A2, c2, rfl, -, z2⟩ := own_shape_z own2 HN2.out
   have own12 := own.below hc
   have hb12 := below_then hb hc
   have hap := apart_new own1 (fun z hz => by rw [← hrb]; exact own_blk own z hz)
   have HB12 := Lib.hid hb12; have HO1 := Lib.hid own1; have HO := Lib.hid own12; have HAP := Lib.hid hap; have HBB := Lib.hid hb
   clear own own1 own2 z2 own12 hb12 hap hb hc f0 hbb hbz HSP hrb
   go_wp2_with fail
   go_loopw [16, 22, 23, 24] (fun vl i _ _ wr => ∃ j : Nat, j ≤ mr ∧ i = .int .i64 j ∧ Own rcenc 3 wr sb 47 vl (cntL q (ls.take k) ++ (R.take j).filterMap (cntP q)) ∧ Own rcenc 3 wr rb 47 (.slice A1 mr c1) R ∧ ((Value.slice A1 mr c1).ownBlock = none ∨ (Value.slice A1 mr c1).ownBlock ≠ vl.ownBlock) ∧ Below x11.heap.size x11 wr) (fun _ i _ _ _ => mr - (intOf i).toNat)
   case atStart => exact ⟨0, Nat.zero_le _, rfl, by simpa using HO.out, HO1.out, HAP.out, HB12.out⟩
   case round =>
    obtain ⟨j, hj, rfl, own, own1, hap, hb⟩ := hrel
    have hsb2 : sb ≤ wr.heap.size := by rw [← HSB.out]; exact hb.size
    by_cases hjm : j < mr
    ·obtain ⟨x, hx⟩ : ∃ x, R[j]? = some x := ⟨_, List.getElem?_eq_getElem (by rw [HMR.out]; exact hjm)⟩
     obtain ⟨b2, o2, rfl, hbb2, g0, g1, g2⟩ := rc_cells (Own.rd rcenc_len own1) hx
     have d2 : decide ((j : Int) < (mr : Int)) = true := by simp; omega
     have d2' : decide (j < mr) = true := by simp [hjm]
     have j1 : (0 : Int) ≤ (j : Int) := by omega
     have j2 : (j : Int) < (mr : Int) := by omega
     have e3 : IntKind.i64.wrap ((j : Int) + 1) = (j : Int) + 1 := IntWalk.i64_in _ (by omega)
     have hE0 : Env wr [(w.heap.size, [.int .u8 q.ag, .slice A na ca, .slice B n cb, .bool q.jo, .slice C nc cc, .int .u8 q.wk, .int .i64 q.ws, .int .i64 q.we, .bool q.ky, .int .u8 q.la])] wr := ⟨Below.refl _ _, HL0.out.below hb⟩
     have hR0 : ∀ X, Env wr [(w.heap.size, [.int .u8 q.ag, .slice A na ca, .slice B n cb, .bool q.jo, .slice C nc cc, .int .u8 q.wk, .int .i64 q.ws, .int .i64 q.we, .bool q.ky, .int .u8 q.la])] X → Loc X [(w.heap.size, [.int .u8 q.ag, .slice A na ca, .slice B n cb, .bool q.jo, .slice C nc cc, .int .u8 q.wk, .int .i64 q.ws, .int .i64 q.we, .bool q.ky, .int .u8 q.la])] ∧ X.cell? ⟨b2, o2 + j * 3, none⟩ = some (.int .i64 x.k) ∧ X.cell? ⟨b2, o2 + j * 3 + 1, none⟩ = some (.int .i64 x.t) ∧ X.cell? ⟨b2, o2 + j * 3 + 2, none⟩ = some (.int .i64 x.v) := fun X hX =>
      ⟨hX.2, (hX.1.cell (p := ⟨b2, _, none⟩) hbb2).trans g0, (hX.1.cell (p := ⟨b2, _, none⟩) hbb2).trans g1, (hX.1.cell (p := ⟨b2, _, none⟩) hbb2).trans g2⟩
     (repeat unfold Loc at hR0)
     have HXJ := Lib.hid hx; have HJM := Lib.hid hjm; have HOWN := Lib.hid own; have HOWN1 := Lib.hid own1; have HAPJ := Lib.hid hap; have HBJ := Lib.hid hb
     have hcall : ∀ W, Env wr [(w.heap.size, [.int .u8 q.ag, .slice A na ca, .slice B n cb, .bool q.jo, .slice C nc cc, .int .u8 q.wk, .int .i64 q.ws, .int .i64 q.we, .bool q.ky, .int .u8 q.la])] W → Calls Tryz.prog 14 #[.agg #[.int .u8 q.ag, .slice A na ca, .slice B n cb, .bool q.jo, .slice C nc cc, .int .u8 q.wk, .int .i64 q.ws, .int .i64 q.we, .bool q.ky, .int .u8 q.la], .agg #[.int .i64 x.k, .int .i64 x.t, .int .i64 x.v]] W (CntP (cntP q x) W) := fun W hW => HCN.out x W (below_then (below_then HZ0.out hb) hW.1)
     have HCALL := Lib.hid hcall
     clear hx hjm own own1 hap hb g0 g1 g2 hbb2 hcall
     go_wp2_with fail
     refine hB (Env wr [(w.heap.size, [.int .u8 q.ag, .slice A na ca, .slice B n cb, .bool q.jo, .slice C nc cc, .int .u8 q.wk, .int .i64 q.ws, .int .i64 q.we, .bool q.ky, .int .u8 q.la])]) (fun hHeld => ?_) (hS := Env.drew hE0)
     refine hT 0 ?_; refine hT 1 ?_; refine hT 2 ?_; refine hT 3 ?_; refine hT 4 ?_
     refine wpAnyH_ready (rs := [5, 9]) (by kernel_rfl) (by simp) ?_
     refine hCons 5 (by decide) ?_ (hCons 9 (by decide) ?_ AllReadyH.nil)
     ·(intro oi hoi; simp only [List.getElem?_toArray, List.getElem?_cons_succ, List.getElem?_cons_zero] at hoi; obtain rfl := Option.some.inj hoi; clear hoi); intro K hK
      go_simp
      go_at_call 14
      refine (HCALL.out _ hHeld).mono ?_
      rintro r y1 hcn
      obtain ⟨xk, xt, xv, bb, rfl, hcase, hc⟩ := cnt_form hcn
      (refine hKp hK (fun hHeld => ?_) (Env.step hc hHeld); clear hK K)
      refine hT 6 ?_; refine hT 7 ?_; refine hT 8 ?_
      refine hC 9 fun K hK => ?_; go_simp
      (refine hKp hK fun hHeld => ?_; clear hK K)
      refine hC 10 fun K hK => ?_; go_simp
      (refine hKp hK fun hHeld => ?_; clear hK K)
      refine hT 11 ?_
      refine hD ?_
      have hlY := (Loc.nil y1).new [.int .i64 xk, .int .i64 xt, .int .i64 xv] 47
      have hbY := hHeld.1
      clear hHeld
      obtain ⟨yb, hyb⟩ : ∃ yb, y1.heap.size = yb := ⟨_, rfl⟩
      (try simp only [hyb])
      rw [hyb] at hlY
      generalize hYY : y1.alloc (.cells #[.int .i64 xk, .int .i64 xt, .int .i64 xv] 47) = Y at hlY hbY ⊢
      clear hYY hyb hR0 hE0 hc
      have hF := hlY
      (repeat unfold Loc at hF)
      have own2 := HOWN.out.below hbY
      have own12 := HOWN1.out.below hbY
      have hbx := below_then HBJ.out hbY
      have hsy : sb ≤ Y.heap.size := Nat.le_trans hsb2 hbY.size
      rcases hcase with ⟨y, ho, rfl, rfl, rfl, rfl⟩ | ⟨ho, rfl⟩
      ·have hnl : (cntL q (ls.take k) ++ (R.take j).filterMap (cntP q)).length ≤ 400 := by
        have h1 := List.length_filterMap_le (cntP q) (R.take j)
        rw [List.length_take] at h1
        rw [List.length_append]; omega
       have hls : cntL q (ls.take k) ++ (R.take (j + 1)).filterMap (cntP q) = (cntL q (ls.take k) ++ (R.take j).filterMap (cntP q)) ++ [y] := by
        rw [List.take_add_one, HXJ.out, Option.toList, List.filterMap_append]; simp [ho]
       have HLS := Lib.hid hls
       clear hls ho
       go_wp2_with (at_builtin; refine wpList_app rc_el rfl (.tmp 141) (.tmp 143) rfl sb rcenc_len rc_one (cntL q (ls.take k) ++ (R.take j).filterMap (cntP q)) [y] rfl (own2.alloc _) rfl rfl (flat_new _ _ _ _ (by simp) _ rfl) (by omega) (by rw [World.size_alloc]; omega) ?_; intro v7 w7 own7 hgr7 hb7 hl7)
       have own17 := (own12.alloc (.cells #[.int .i64 y.k, .int .i64 y.t, .int .i64 y.v] 47)).grown hgr7 HAPJ.out
       have hap7 := apart_after (own12.alloc (.cells #[.int .i64 y.k, .int .i64 y.t, .int .i64 y.v] 47)) HAPJ.out hl7
       go_roundw
       case rel => exact ⟨j + 1, HJM.out, by go_num, by rw [HLS.out]; exact own7, own17, hap7, (below_new hbx _).trans (by rw [HSB.out]; exact hb7)⟩
       case measure => have := HJM.out; simp [intOf]; omega
      ·have hls : cntL q (ls.take k) ++ (R.take (j + 1)).filterMap (cntP q) = cntL q (ls.take k) ++ (R.take j).filterMap (cntP q) := by
        rw [List.take_add_one, HXJ.out, Option.toList, List.filterMap_append]; simp [ho]
       have HLS := Lib.hid hls
       clear hls ho
       go_wp2_with fail
       go_roundw
       case rel => exact ⟨j + 1, HJM.out, by go_num, by rw [HLS.out]; exact own2, own12, HAPJ.out, hbx⟩
       case measure => have := HJM.out; simp [intOf]; omega
     ·(intro oi hoi; simp only [List.getElem?_toArray, List.getElem?_cons_succ, List.getElem?_cons_zero] at hoi; obtain rfl := Option.some.inj hoi; clear hoi); intro K hK
      go_simp
      (refine hKp hK fun hHeld => ?_; clear hK K)
      refine hC 5 fun K hK => ?_; go_simp
      go_at_call 14
      refine (HCALL.out _ hHeld).mono ?_
      rintro r y1 hcn
      obtain ⟨xk, xt, xv, bb, rfl, hcase, hc⟩ := cnt_form hcn
      have hq0 := Loc.below hc ((Loc.nil wr).new [.int .i64 0, .int .i64 0, .int .i64 0] 47).drew
      have hq1 := hq0
      (repeat unfold Loc at hq1)
      (refine hKp hK (fun hHeld => ?_) (Env.step hc hHeld); clear hK K)
      refine hT 6 ?_; refine hT 7 ?_; refine hT 8 ?_
      refine hC 10 fun K hK => ?_; go_simp
      (refine hKp hK (fun hHeld => ?_) ((by have hne : ∀ z ∈ ([(w.heap.size, [.int .u8 q.ag, .slice A na ca, .slice B n cb, .bool q.jo, .slice C nc cc, .int .u8 q.wk, .int .i64 q.ws, .int .i64 q.we, .bool q.ky, .int .u8 q.la])] : List (Nat × List Value)), z.1 ≠ wr.heap.size := hE0.lt; exact Env.far (p := ⟨wr.heap.size, _, none⟩) (Env.far (p := ⟨wr.heap.size, _, none⟩) (Env.far (p := ⟨wr.heap.size, _, none⟩) hHeld (Nat.le_refl _) hne _) (Nat.le_refl _) hne _) (Nat.le_refl _) hne _)); clear hK K)
      refine hT 11 ?_
      refine hD ?_
      have hlY := ((hq0.put (by simp) 0 (.int .i64 xk) (by simp)).put (by simp) 1 (.int .i64 xt) (by simp)).put (by simp) 2 (.int .i64 xv) (by simp)
      simp only [List.set_cons_zero, List.set_cons_succ] at hlY
      have hbY := hHeld.1
      clear hHeld
      generalize hYY : ((y1.setCell ⟨wr.heap.size, 0, none⟩ (.int .i64 xk)).setCell ⟨wr.heap.size, 1, none⟩ (.int .i64 xt)).setCell ⟨wr.heap.size, 2, none⟩ (.int .i64 xv) = Y at hlY hbY ⊢
      clear hYY hR0 hE0 hc hq0 hq1
      have hF := hlY
      (repeat unfold Loc at hF)
      have own2 := HOWN.out.below hbY
      have own12 := HOWN1.out.below hbY
      have hbx := below_then HBJ.out hbY
      have hsy : sb ≤ Y.heap.size := Nat.le_trans hsb2 hbY.size
      rcases hcase with ⟨y, ho, rfl, rfl, rfl, rfl⟩ | ⟨ho, rfl⟩
      ·have hnl : (cntL q (ls.take k) ++ (R.take j).filterMap (cntP q)).length ≤ 400 := by
        have h1 := List.length_filterMap_le (cntP q) (R.take j)
        rw [List.length_take] at h1
        rw [List.length_append]; omega
       have hls : cntL q (ls.take k) ++ (R.take (j + 1)).filterMap (cntP q) = (cntL q (ls.take k) ++ (R.take j).filterMap (cntP q)) ++ [y] := by
        rw [List.take_add_one, HXJ.out, Option.toList, List.filterMap_append]; simp [ho]
       have HLS := Lib.hid hls
       clear hls ho
       go_wp2_with (at_builtin; refine wpList_app rc_el rfl (.tmp 141) (.tmp 143) rfl sb rcenc_len rc_one (cntL q (ls.take k) ++ (R.take j).filterMap (cntP q)) [y] rfl (own2.alloc _) rfl rfl (flat_new _ _ _ _ (by simp) _ rfl) (by omega) (by rw [World.size_alloc]; omega) ?_; intro v7 w7 own7 hgr7 hb7 hl7)
       have own17 := (own12.alloc (.cells #[.int .i64 y.k, .int .i64 y.t, .int .i64 y.v] 47)).grown hgr7 HAPJ.out
       have hap7 := apart_after (own12.alloc (.cells #[.int .i64 y.k, .int .i64 y.t, .int .i64 y.v] 47)) HAPJ.out hl7
       go_roundw
       case rel => exact ⟨j + 1, HJM.out, by go_num, by rw [HLS.out]; exact own7, own17, hap7, (below_new hbx _).trans (by rw [HSB.out]; exact hb7)⟩
       case measure => have := HJM.out; simp [intOf]; omega
      ·have hls : cntL q (ls.take k) ++ (R.take (j + 1)).filterMap (cntP q) = cntL q (ls.take k) ++ (R.take j).filterMap (cntP q) := by
        rw [List.take_add_one, HXJ.out, Option.toList, List.filterMap_append]; simp [ho]
       have HLS := Lib.hid hls
       clear hls ho
       go_wp2_with fail
       go_roundw
       case rel => exact ⟨j + 1, HJM.out, by go_num, by rw [HLS.out]; exact own2, own12, HAPJ.out, hbx⟩
       case measure => have := HJM.out; simp [intOf]; omega
    ·obtain rfl : mr = j := by omega
     have d2 : decide ((mr : Int) < (mr : Int)) = false := by simp
     have d2' : decide (mr < mr) = false := by simp
     have htr : R.take mr = R := List.take_of_length_le (by rw [HMR.out]; exact Nat.le_refl _)
     rw [htr] at own
     have HOWN := Lib.hid own; have HB := Lib.hid hb
     clear own own1 hap hb hjm
     go_wp2_with fail
     go_roundw
     case rel => exact ⟨k + 1, HLT.out, by go_num, by rw [HCX.out]; exact HOWN.out, by rw [HBNX.out]; simp, HB.out⟩
     case measure => have := HLT.out; simp [intOf]; omega
  ·obtain rfl : n = k := by omega
   have htk : ls.take n = ls := List.take_of_length_le (by rw [HN.out]; exact Nat.le_refl _)
   rw [htk] at own hbn
   have d1 : decide ((n : Int) < (n : Int)) = false := by simp
   have d1' : decide (n < n) = false := by simp
   have hwe : (Lit.int .i64 q.we).wf = true := by have := HQ.out.win; unfold wok at this; exact wf_i64 (by omega) (by omega)
   have hlq := HL0.out.below hb
   have hbb := hb
   have hbw := below_then (below_then HB0.out HZ0.out) hb
   have HWE := Lib.hid hwe
   clear hwe hb htk hlt hk
   by_cases hl2 : q.la = 2
   ·have dl : (q.la == 2) = true := by simp [hl2]
    obtain rfl : bn = ns := by
     have h1 := HSID.out
     rw [if_pos hl2] at h1
     rw [← hbn, h1, HNS.out]
    have dns : ((bn : Int) != (bn : Int)) = false := by simp
    clear hl2 hbn
    obtain ⟨jb, hjb⟩ : ∃ b, q.jo = b := ⟨_, rfl⟩
    have HJB := Lib.hid hjb
    have hF := hlq
    rw [hjb] at hF
    (repeat unfold Loc at hF)
    clear hjb
    cases jb with
    | true =>
     go_wp2_with fail
     go_ret
     exact ⟨rfl, hbw⟩
    | false =>
    obtain ⟨S, hS⟩ : ∃ S, slchk q.wk q.ws q.we = S := ⟨_, rfl⟩
    have HSA := Lib.hid (fun W => by have := asked_any q.wk q.ws q.we HWE.out W; rwa [hS] at this)
    have HSL := Lib.hid hS
    clear hS
    go_wp2_with fail
    go_at_call 15
    refine (HSA.out _).mono ?_
    rintro r x12 ⟨rfl, hc⟩
    replace hlq := hlq.below hc
    replace hbw := below_then hbw hc
    replace hbb := below_then hbb hc
    replace own := own.below hc
    clear hc hF HSA
    have hF := hlq
    rw [HJB.out] at hF
    (repeat unfold Loc at hF)
    by_cases hS0 : S = 0
    rotate_left
    ·have ds : (S != 0) = true := by simp [hS0]
     clear hS0 own hlq hbb
     go_wp2_with fail
     go_ret
     exact ⟨rfl, hbw⟩
    subst hS0
    obtain ⟨nl, hnl⟩ : ∃ nl, (cntL q ls).length = nl := ⟨_, rfl⟩
    have hnl240 : nl ≤ 240 := by
     have h1 := (puts_fit HQ.out HLEN.out HEV.out).1
     have e : putsQ q ls = cntL q ls := puts_plain HJB.out ls 0
     rw [e, hnl] at h1
     exact h1
    obtain ⟨Ar, cr, rfl, -, zr⟩ := own_shape_z own hnl
    have HV : Hid (Calls Tryz.prog 16 #[.agg #[.int .u8 q.wk, .int .i64 q.ws, .int .i64 q.we], .slice Ar nl cr] x12 (fun r w' => ∃ v, r = .returned (.tuple #[v, .int .i64 0]) ∧ Own enenc 11 w' x12.heap.size 62 v a ∧ Below x12.heap.size x12 w')) := by
     refine (values_any Ar cr nl (cntL q ls) q.wk q.ws q.we HWE.out x12 hnl (by omega) (Own.rd rcenc_len own) (cntL_rct HQ.out H64.out)).mono ?_
     rintro r w' ⟨v, rfl, h1, h2⟩
     rw [pvals_all HQ.out HJB.out HSL.out HLEN.out HEV.out HA.out] at h1 ⊢
     exact ⟨v, rfl, h1, h2⟩
    have hpos : ∀ x ∈ a, x.c1 ≠ 0 ∧ x.a.ok := fun x hx => by
     have h1 := HIA.out
     have e : putsQ q ls = cntL q ls := puts_plain HJB.out ls 0
     rw [e] at h1
     exact entry_pos h1 HCK.out cntL_d hx
    have hrw : a.map (rmOf q.ag) = rws := by
     rw [← HRWS.out, HJB.out]
     exact (rows_plain (fun x hx => (hpos x hx).1)).symm
    have ham : a.length = nr := by rw [← HNR.out, ← hrw, List.length_map]
    have HPOS := Lib.hid hpos; have HRW := Lib.hid hrw; have HAM := Lib.hid ham
    have hrows := HRD8.out.grow (below_then HY0.out hbb)
    clear own hnl hpos hrw ham zr
    go_wp2_with fail
    go_at_call 16
    refine HV.out.mono ?_
    rintro r x13 ⟨v, rfl, ownv, hc⟩
    obtain ⟨Av, cv, rfl, -, zv⟩ := own_shape_z ownv HAM.out
    replace hlq := hlq.below hc
    replace hbw := below_then hbw hc
    replace hrows := hrows.grow hc
    have hens := Own.rd enenc_len ownv
    clear hc hF HV ownv zv hbb
    have dnr : ((nr : Int) != (nr : Int)) = false := by simp
    go_wp2_with fail
    have HLQ := Lib.hid hlq; have HBW := Lib.hid hbw
    clear hlq hbw
    go_loopw [27, 28, 29] (fun i _ _ wr => ∃ j : Nat, j ≤ nr ∧ i = .int .i64 j ∧ Below x13.heap.size x13 wr) (fun i _ _ _ => nr - (intOf i).toNat)
    case atStart => exact ⟨0, Nat.zero_le _, rfl, Below.refl _ _⟩
    case round =>
     obtain ⟨j, hj, rfl, hb⟩ := hrel
     by_cases hjm : j < nr
     ·obtain ⟨x, hx⟩ : ∃ x, a[j]? = some x := ⟨_, List.getElem?_eq_getElem (by rw [HAM.out]; exact hjm)⟩
      have hxr : rws[j]? = some (rmOf q.ag x) := by rw [← HRW.out, List.getElem?_map, hx]; rfl
      obtain ⟨bE, oE, rfl, hbE, f0, f1, f2, f3, f4, f5, f6, f7, f8, f9, f10⟩ := en_cells hens hx
      obtain ⟨bR, oR, rfl, hbR, g0, g1, g2, g3, g4⟩ := rm_cells hrows hxr
      have hxp := HPOS.out x (List.mem_of_getElem? hx)
      have d2 : decide ((j : Int) < (nr : Int)) = true := by simp; omega
      have d2' : decide (j < nr) = true := by simp [hjm]
      have j1 : (0 : Int) ≤ (j : Int) := by omega
      have j2 : (j : Int) < (nr : Int) := by omega
      have e3 : IntKind.i64.wrap ((j : Int) + 1) = (j : Int) + 1 := IntWalk.i64_in _ (by omega)
      obtain ⟨V, hV⟩ : ∃ V, atold q.ag x.a = V := ⟨_, rfl⟩
      have HVAL := Lib.hid (fun W => aval_ok q.ag HQ.out.ag x.c1 x.s1 x.m1 x.x1 hxp.2 W V 0 (by rw [if_neg hxp.1]; rw [← hV]; rfl))
      have hrun := neq_rm' (rmOf q.ag x)
      simp only [rmOf, hV] at hrun g0 g1 g2 g3 g4
      have hE0 : Env wr [(w.heap.size, [.int .u8 q.ag, .slice A na ca, .slice B n cb, .bool false, .slice C nc cc, .int .u8 q.wk, .int .i64 q.ws, .int .i64 q.we, .bool q.ky, .int .u8 q.la])] wr := ⟨Below.refl _ _, by have := HLQ.out.below hb; rwa [HJB.out] at this⟩
      have hcE : ∀ X, Env wr [(w.heap.size, [.int .u8 q.ag, .slice A na ca, .slice B n cb, .bool false, .slice C nc cc, .int .u8 q.wk, .int .i64 q.ws, .int .i64 q.we, .bool q.ky, .int .u8 q.la])] X → ∀ o, X.cell? ⟨bE, o, none⟩ = x13.cell? ⟨bE, o, none⟩ := fun X hX o => (hX.1.cell (p := ⟨bE, o, none⟩) (Nat.lt_of_lt_of_le hbE hb.size)).trans (hb.cell (p := ⟨bE, o, none⟩) hbE)
      have hcR : ∀ X, Env wr [(w.heap.size, [.int .u8 q.ag, .slice A na ca, .slice B n cb, .bool false, .slice C nc cc, .int .u8 q.wk, .int .i64 q.ws, .int .i64 q.we, .bool q.ky, .int .u8 q.la])] X → ∀ o, X.cell? ⟨bR, o, none⟩ = x13.cell? ⟨bR, o, none⟩ := fun X hX o => (hX.1.cell (p := ⟨bR, o, none⟩) (Nat.lt_of_lt_of_le hbR hb.size)).trans (hb.cell (p := ⟨bR, o, none⟩) hbR)
      have hR0 : ∀ X, Env wr [(w.heap.size, [.int .u8 q.ag, .slice A na ca, .slice B n cb, .bool false, .slice C nc cc, .int .u8 q.wk, .int .i64 q.ws, .int .i64 q.we, .bool q.ky, .int .u8 q.la])] X → Loc X [(w.heap.size, [.int .u8 q.ag, .slice A na ca, .slice B n cb, .bool false, .slice C nc cc, .int .u8 q.wk, .int .i64 q.ws, .int .i64 q.we, .bool q.ky, .int .u8 q.la])] ∧ X.cell? ⟨bE, oE + j * 11 + 3, none⟩ = some (.int .i64 x.c1) ∧ X.cell? ⟨bE, oE + j * 11 + 4, none⟩ = some (.int .i64 x.s1) ∧ X.cell? ⟨bE, oE + j * 11 + 5, none⟩ = some (.int .i64 x.m1) ∧ X.cell? ⟨bE, oE + j * 11 + 6, none⟩ = some (.int .i64 x.x1) := fun X hX =>
       ⟨hX.2, (hcE X hX _).trans f3, (hcE X hX _).trans f4, (hcE X hX _).trans f5, (hcE X hX _).trans f6⟩
      (repeat unfold Loc at hR0)
      have HCE := Lib.hid hcE; have HCR := Lib.hid hcR; have HJM := Lib.hid hjm; have HB := Lib.hid hb
      have HF0 := Lib.hid f0; have HF1 := Lib.hid f1; have HF2 := Lib.hid f2; have HG0 := Lib.hid g0; have HG1 := Lib.hid g1; have HG2 := Lib.hid g2; have HG3 := Lib.hid g3; have HG4 := Lib.hid g4; have HRUN := Lib.hid hrun
      clear hx hxr hxp hV hcE hcR hjm hb f0 f1 f2 f3 f4 f5 f6 f7 f8 f9 f10 g0 g1 g2 g3 g4 hrun hbE hbR
      go_wp2_with fail
      refine hB (Env wr [(w.heap.size, [.int .u8 q.ag, .slice A na ca, .slice B n cb, .bool false, .slice C nc cc, .int .u8 q.wk, .int .i64 q.ws, .int .i64 q.we, .bool q.ky, .int .u8 q.la])]) (fun hHeld => ?_) (hS := Env.drew hE0)
      refine hT 0 ?_; refine hT 1 ?_; refine hT 2 ?_; refine hT 3 ?_; refine hT 4 ?_; refine hT 5 ?_; refine hT 6 ?_; refine hT 7 ?_
      refine hC 8 fun K hK => ?_; go_simp
      go_at_call 17
      refine (HVAL.out _).mono ?_
      rintro r y1 ⟨rfl, hc⟩
      (refine hKp hK (fun hHeld => ?_) (Env.step hc hHeld); clear hK K)
      refine hT 9 ?_; refine hT 10 ?_; refine hT 11 ?_; refine hT 12 ?_; refine hT 13 ?_
      refine hD ?_
      have hbY := hHeld.1
      have r0 := (HCR.out _ hHeld _).trans HG0.out
      have r1 := (HCR.out _ hHeld _).trans HG1.out
      have r2 := (HCR.out _ hHeld _).trans HG2.out
      have r3 := (HCR.out _ hHeld _).trans HG3.out
      have r4 := (HCR.out _ hHeld _).trans HG4.out
      have s0 := (HCE.out _ hHeld _).trans HF0.out
      have s1 := (HCE.out _ hHeld _).trans HF1.out
      have s2 := (HCE.out _ hHeld _).trans HF2.out
      have hrun := HRUN.out
      clear hR0 hHeld hE0 hc
      go_wp2_with fail
      go_quiet (fail)
      go_wp2_with fail
      go_roundw
      case rel => exact ⟨j + 1, HJM.out, by go_num, below_drewN' (below_then HB.out hbY) _⟩
      case measure => have := HJM.out; simp [intOf]; omega
     ·obtain rfl : nr = j := by omega
      have d2 : decide ((nr : Int) < (nr : Int)) = false := by simp
      have d2' : decide (nr < nr) = false := by simp
      have HB := Lib.hid hb
      clear hb hjm
      go_wp2_with fail
      go_ret
      exact ⟨rfl, below_then HBW.out HB.out⟩
   ·have dl : (q.la == 2) = false := by simp [hl2]
    clear hl2 hbn
    obtain ⟨jb, hjb⟩ : ∃ b, q.jo = b := ⟨_, rfl⟩
    have HJB := Lib.hid hjb
    have hF := hlq
    rw [hjb] at hF
    (repeat unfold Loc at hF)
    clear hjb
    cases jb with
    | true =>
     go_wp2_with fail
     go_ret
     exact ⟨rfl, hbw⟩
    | false =>
    obtain ⟨S, hS⟩ : ∃ S, slchk q.wk q.ws q.we = S := ⟨_, rfl⟩
    have HSA := Lib.hid (fun W => by have := asked_any q.wk q.ws q.we HWE.out W; rwa [hS] at this)
    have HSL := Lib.hid hS
    clear hS
    go_wp2_with fail
    go_at_call 15
    refine (HSA.out _).mono ?_
    rintro r x12 ⟨rfl, hc⟩
    replace hlq := hlq.below hc
    replace hbw := below_then hbw hc
    replace hbb := below_then hbb hc
    replace own := own.below hc
    clear hc hF HSA
    have hF := hlq
    rw [HJB.out] at hF
    (repeat unfold Loc at hF)
    by_cases hS0 : S = 0
    rotate_left
    ·have ds : (S != 0) = true := by simp [hS0]
     clear hS0 own hlq hbb
     go_wp2_with fail
     go_ret
     exact ⟨rfl, hbw⟩
    subst hS0
    obtain ⟨nl, hnl⟩ : ∃ nl, (cntL q ls).length = nl := ⟨_, rfl⟩
    have hnl240 : nl ≤ 240 := by
     have h1 := (puts_fit HQ.out HLEN.out HEV.out).1
     have e : putsQ q ls = cntL q ls := puts_plain HJB.out ls 0
     rw [e, hnl] at h1
     exact h1
    obtain ⟨Ar, cr, rfl, -, zr⟩ := own_shape_z own hnl
    have HV : Hid (Calls Tryz.prog 16 #[.agg #[.int .u8 q.wk, .int .i64 q.ws, .int .i64 q.we], .slice Ar nl cr] x12 (fun r w' => ∃ v, r = .returned (.tuple #[v, .int .i64 0]) ∧ Own enenc 11 w' x12.heap.size 62 v a ∧ Below x12.heap.size x12 w')) := by
     refine (values_any Ar cr nl (cntL q ls) q.wk q.ws q.we HWE.out x12 hnl (by omega) (Own.rd rcenc_len own) (cntL_rct HQ.out H64.out)).mono ?_
     rintro r w' ⟨v, rfl, h1, h2⟩
     rw [pvals_all HQ.out HJB.out HSL.out HLEN.out HEV.out HA.out] at h1 ⊢
     exact ⟨v, rfl, h1, h2⟩
    have hpos : ∀ x ∈ a, x.c1 ≠ 0 ∧ x.a.ok := fun x hx => by
     have h1 := HIA.out
     have e : putsQ q ls = cntL q ls := puts_plain HJB.out ls 0
     rw [e] at h1
     exact entry_pos h1 HCK.out cntL_d hx
    have hrw : a.map (rmOf q.ag) = rws := by
     rw [← HRWS.out, HJB.out]
     exact (rows_plain (fun x hx => (hpos x hx).1)).symm
    have ham : a.length = nr := by rw [← HNR.out, ← hrw, List.length_map]
    have HPOS := Lib.hid hpos; have HRW := Lib.hid hrw; have HAM := Lib.hid ham
    have hrows := HRD8.out.grow (below_then HY0.out hbb)
    clear own hnl hpos hrw ham zr
    go_wp2_with fail
    go_at_call 16
    refine HV.out.mono ?_
    rintro r x13 ⟨v, rfl, ownv, hc⟩
    obtain ⟨Av, cv, rfl, -, zv⟩ := own_shape_z ownv HAM.out
    replace hlq := hlq.below hc
    replace hbw := below_then hbw hc
    replace hrows := hrows.grow hc
    have hens := Own.rd enenc_len ownv
    clear hc hF HV ownv zv hbb
    have dnr : ((nr : Int) != (nr : Int)) = false := by simp
    go_wp2_with fail
    have HLQ := Lib.hid hlq; have HBW := Lib.hid hbw
    clear hlq hbw
    go_loopw [27, 28, 29] (fun i _ _ wr => ∃ j : Nat, j ≤ nr ∧ i = .int .i64 j ∧ Below x13.heap.size x13 wr) (fun i _ _ _ => nr - (intOf i).toNat)
    case atStart => exact ⟨0, Nat.zero_le _, rfl, Below.refl _ _⟩
    case round =>
     obtain ⟨j, hj, rfl, hb⟩ := hrel
     by_cases hjm : j < nr
     ·obtain ⟨x, hx⟩ : ∃ x, a[j]? = some x := ⟨_, List.getElem?_eq_getElem (by rw [HAM.out]; exact hjm)⟩
      have hxr : rws[j]? = some (rmOf q.ag x) := by rw [← HRW.out, List.getElem?_map, hx]; rfl
      obtain ⟨bE, oE, rfl, hbE, f0, f1, f2, f3, f4, f5, f6, f7, f8, f9, f10⟩ := en_cells hens hx
      obtain ⟨bR, oR, rfl, hbR, g0, g1, g2, g3, g4⟩ := rm_cells hrows hxr
      have hxp := HPOS.out x (List.mem_of_getElem? hx)
      have d2 : decide ((j : Int) < (nr : Int)) = true := by simp; omega
      have d2' : decide (j < nr) = true := by simp [hjm]
      have j1 : (0 : Int) ≤ (j : Int) := by omega
      have j2 : (j : Int) < (nr : Int) := by omega
      have e3 : IntKind.i64.wrap ((j : Int) + 1) = (j : Int) + 1 := IntWalk.i64_in _ (by omega)
      obtain ⟨V, hV⟩ : ∃ V, atold q.ag x.a = V := ⟨_, rfl⟩
      have HVAL := Lib.hid (fun W => aval_ok q.ag HQ.out.ag x.c1 x.s1 x.m1 x.x1 hxp.2 W V 0 (by rw [if_neg hxp.1]; rw [← hV]; rfl))
      have hrun := neq_rm' (rmOf q.ag x)
      simp only [rmOf, hV] at hrun g0 g1 g2 g3 g4
      have hE0 : Env wr [(w.heap.size, [.int .u8 q.ag, .slice A na ca, .slice B n cb, .bool false, .slice C nc cc, .int .u8 q.wk, .int .i64 q.ws, .int .i64 q.we, .bool q.ky, .int .u8 q.la])] wr := ⟨Below.refl _ _, by have := HLQ.out.below hb; rwa [HJB.out] at this⟩
      have hcE : ∀ X, Env wr [(w.heap.size, [.int .u8 q.ag, .slice A na ca, .slice B n cb, .bool false, .slice C nc cc, .int .u8 q.wk, .int .i64 q.ws, .int .i64 q.we, .bool q.ky, .int .u8 q.la])] X → ∀ o, X.cell? ⟨bE, o, none⟩ = x13.cell? ⟨bE, o, none⟩ := fun X hX o => (hX.1.cell (p := ⟨bE, o, none⟩) (Nat.lt_of_lt_of_le hbE hb.size)).trans (hb.cell (p := ⟨bE, o, none⟩) hbE)
      have hcR : ∀ X, Env wr [(w.heap.size, [.int .u8 q.ag, .slice A na ca, .slice B n cb, .bool false, .slice C nc cc, .int .u8 q.wk, .int .i64 q.ws, .int .i64 q.we, .bool q.ky, .int .u8 q.la])] X → ∀ o, X.cell? ⟨bR, o, none⟩ = x13.cell? ⟨bR, o, none⟩ := fun X hX o => (hX.1.cell (p := ⟨bR, o, none⟩) (Nat.lt_of_lt_of_le hbR hb.size)).trans (hb.cell (p := ⟨bR, o, none⟩) hbR)
      have hR0 : ∀ X, Env wr [(w.heap.size, [.int .u8 q.ag, .slice A na ca, .slice B n cb, .bool false, .slice C nc cc, .int .u8 q.wk, .int .i64 q.ws, .int .i64 q.we, .bool q.ky, .int .u8 q.la])] X → Loc X [(w.heap.size, [.int .u8 q.ag, .slice A na ca, .slice B n cb, .bool false, .slice C nc cc, .int .u8 q.wk, .int .i64 q.ws, .int .i64 q.we, .bool q.ky, .int .u8 q.la])] ∧ X.cell? ⟨bE, oE + j * 11 + 3, none⟩ = some (.int .i64 x.c1) ∧ X.cell? ⟨bE, oE + j * 11 + 4, none⟩ = some (.int .i64 x.s1) ∧ X.cell? ⟨bE, oE + j * 11 + 5, none⟩ = some (.int .i64 x.m1) ∧ X.cell? ⟨bE, oE + j * 11 + 6, none⟩ = some (.int .i64 x.x1) := fun X hX =>
       ⟨hX.2, (hcE X hX _).trans f3, (hcE X hX _).trans f4, (hcE X hX _).trans f5, (hcE X hX _).trans f6⟩
      (repeat unfold Loc at hR0)
      have HCE := Lib.hid hcE; have HCR := Lib.hid hcR; have HJM := Lib.hid hjm; have HB := Lib.hid hb
      have HF0 := Lib.hid f0; have HF1 := Lib.hid f1; have HF2 := Lib.hid f2; have HG0 := Lib.hid g0; have HG1 := Lib.hid g1; have HG2 := Lib.hid g2; have HG3 := Lib.hid g3; have HG4 := Lib.hid g4; have HRUN := Lib.hid hrun
      clear hx hxr hxp hV hcE hcR hjm hb f0 f1 f2 f3 f4 f5 f6 f7 f8 f9 f10 g0 g1 g2 g3 g4 hrun hbE hbR
      go_wp2_with fail
      refine hB (Env wr [(w.heap.size, [.int .u8 q.ag, .slice A na ca, .slice B n cb, .bool false, .slice C nc cc, .int .u8 q.wk, .int .i64 q.ws, .int .i64 q.we, .bool q.ky, .int .u8 q.la])]) (fun hHeld => ?_) (hS := Env.drew hE0)
      refine hT 0 ?_; refine hT 1 ?_; refine hT 2 ?_; refine hT 3 ?_; refine hT 4 ?_; refine hT 5 ?_; refine hT 6 ?_; refine hT 7 ?_
      refine hC 8 fun K hK => ?_; go_simp
      go_at_call 17
      refine (HVAL.out _).mono ?_
      rintro r y1 ⟨rfl, hc⟩
      (refine hKp hK (fun hHeld => ?_) (Env.step hc hHeld); clear hK K)
      refine hT 9 ?_; refine hT 10 ?_; refine hT 11 ?_; refine hT 12 ?_; refine hT 13 ?_
      refine hD ?_
      have hbY := hHeld.1
      have r0 := (HCR.out _ hHeld _).trans HG0.out
      have r1 := (HCR.out _ hHeld _).trans HG1.out
      have r2 := (HCR.out _ hHeld _).trans HG2.out
      have r3 := (HCR.out _ hHeld _).trans HG3.out
      have r4 := (HCR.out _ hHeld _).trans HG4.out
      have s0 := (HCE.out _ hHeld _).trans HF0.out
      have s1 := (HCE.out _ hHeld _).trans HF1.out
      have s2 := (HCE.out _ hHeld _).trans HF2.out
      have hrun := HRUN.out
      clear hR0 hHeld hE0 hc
      go_wp2_with fail
      go_quiet (fail)
      go_wp2_with fail
      go_roundw
      case rel => exact ⟨j + 1, HJM.out, by go_num, below_drewN' (below_then HB.out hbY) _⟩
      case measure => have := HJM.out; simp [intOf]; omega
     ·obtain rfl : nr = j := by omega
      have d2 : decide ((nr : Int) < (nr : Int)) = false := by simp
      have d2' : decide (nr < nr) = false := by simp
      have HB := Lib.hid hb
      clear hb hjm
      go_wp2_with fail
      go_ret
      exact ⟨rfl, below_then HBW.out HB.out⟩
end Go.Proofs.YtnljihjhmgpcoaaGreat
namespace Go.Proofs.YtnljihjhmgpcoaaGreat
open Go.RowKit
theorem topMeaning_walk {w : World} (x : QX) (hx : x.ok w) (y : LX) (hy : y.ok w) (m : Int) (_ : (Lit.int .i64 m).wf = true) :
  Calls Tryz.prog 3 #[x.val, y.val, .int .i64 m] w fun r w' => r = .returned (.bool true) ∧ Below w.heap.size w w' :=
 topmean_any x.ag x.arg x.src x.jo x.wh x.wk x.ws x.we x.ky x.la hx.1 hx.2.1 hx.2.2.1 x.A x.B x.C y.I x.arg.length x.ca x.src.length x.cb x.wh.length x.cc y.ls.length y.ci y.ls m w rfl hy.1 hx.2.2.2.1 hx.2.2.2.2 hy.2.1 hy.2.2
end Go.Proofs.YtnljihjhmgpcoaaGreat
