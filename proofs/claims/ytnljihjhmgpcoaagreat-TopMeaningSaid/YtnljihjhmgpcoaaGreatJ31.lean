/- Lemmas and contracts for the statement, joined into one text: NodeTops, NodeMoved, NodeCheck. The conditions of each stand at its head. -/
import Derived.Test.YtnljihjhmgpcoaaGreatJ6
import Derived.Test.YtnljihjhmgpcoaaGreatJ30
import Derived.Handy
import Derived.Deep.DeepCutAuto
import Derived.Deep.CutRange
import Derived.Test.YtnljihjhmgpcoaaGreatJ1
namespace Go.Proofs.YtnljihjhmgpcoaaGreat
open Go.RowKit Go.ChangeShapes Go.WideShapes Go.ChangeAt Go.Deep
theorem nd_cells {w : World} {B : Nat} {A : Option Addr} {l : List Nd} (h : Rd nenc 5 w B A l) {k : Nat} {x : Nd} (hx : l[k]? = some x) :
  ∃ b off, A = some ⟨b, off, none⟩ ∧ b < B ∧ w.cell? ⟨b, off + k * 5, none⟩ = some (.int .u8 x.k) ∧ w.cell? ⟨b, off + k * 5 + 1, none⟩ = some (.int .i64 x.n) ∧ w.cell? ⟨b, off + k * 5 + 2, none⟩ = some (.int .i64 x.a) ∧ w.cell? ⟨b, off + k * 5 + 3, none⟩ = some (.int .i64 x.b) ∧ w.cell? ⟨b, off + k * 5 + 4, none⟩ = some (.int .i64 x.p) := by
 obtain ⟨b, off, e, hb, hc⟩ := h.at_ hx
 exact ⟨b, off, e, hb, by simpa using hc 0 _ rfl, hc 1 _ rfl, hc 2 _ rfl, hc 3 _ rfl, hc 4 _ rfl⟩
theorem tp_cells {w : World} {B : Nat} {A : Option Addr} {l : List Tp} (h : Rd tpenc 3 w B A l) {k : Nat} {x : Tp} (hx : l[k]? = some x) :
  ∃ b off, A = some ⟨b, off, none⟩ ∧ b < B ∧ w.cell? ⟨b, off + k * 3, none⟩ = some (.int .i64 x.at_) ∧ w.cell? ⟨b, off + k * 3 + 1, none⟩ = some (.int .i64 x.sz) ∧ w.cell? ⟨b, off + k * 3 + 2, none⟩ = some (.int .i64 x.dp) := by
 obtain ⟨b, off, e, hb, hc⟩ := h.at_ hx
 exact ⟨b, off, e, hb, by simpa using hc 0 _ rfl, hc 1 _ rfl, hc 2 _ rfl⟩
theorem tp_info : (Tryz.prog.info? 230).map (fun i => (i.zero, i.size, i.bytes)) = some (some (.agg #[.int .i64 0, .int .i64 0, .int .i64 0]), 3, 24) := by kernel_rfl
theorem tp_el : ElOk Tryz.prog 198 230 3 24 := elOk tp_info Tryz.underlying198 rfl (by decide) (by decide)
theorem tp_one : OneCells tpenc := by
 intro x u hu; simp [tpenc] at hu; rcases hu with rfl | rfl | rfl <;> rfl
def TopsP (tr : Nat → Ex) (n : Nat) (w : World) (r : Ending) (w' : World) : Prop := ∃ v, r = .returned (.tuple #[v, .bool true]) ∧ Own tpenc 3 w' w.heap.size 230 v (allT tr n) ∧ Below w.heap.size w w'
theorem own_max {α : Type} {enc : α → List Value} {sz : Nat} {w : World} {base : Nat} {e : TypeId} {A : Option Addr} {n c : Nat} {l : List α} (h : Own enc sz w base e (.slice A n c) l) : c ≤ maxLen := by
 obtain ⟨_, _, e, _, h, _⟩ := h.form
 injection e with _ _ e3
 omega
theorem own_far {α : Type} {enc : α → List Value} {sz : Nat} {w : World} {base g : Nat} {e : TypeId} {v : Value} {l : List α} (h : Own enc sz w base e v l) (hg : w.heap.size ≤ g) : some g ≠ v.ownBlock := by
 rcases own_apart' h hg with h | h
 ·rw [h]; simp
 ·exact fun e => h e.symm
theorem own_cut {α : Type} {enc : α → List Value} {sz : Nat} (henc : ∀ x, (enc x).length = sz) {w : World} {base : Nat} {e : TypeId} {A : Option Addr} {n c : Nat} {s t : List α} (h : Own enc sz w base e (.slice A n c) (s ++ t)) : Own enc sz w base e (.slice A s.length c) s := by
 by_cases hv : Value.slice A n c = .slice none 0 0
 ·rw [hv] at h
  simp only [Value.slice.injEq] at hv
  obtain ⟨rfl, rfl, rfl⟩ := hv
  obtain ⟨_, _, e1, _⟩ := h.form
  injection e1 with _ e2 _
  have : s = [] := List.eq_nil_of_length_eq_zero (by rw [List.length_append] at e2; omega)
  subst this
  exact Own.nil _ _ _
 ·obtain ⟨g, cap, e1, _, _⟩ := own_some h hv
  injection e1 with e1 e2 e3
  subst e1; subst e2; subst e3
  have := Own.take henc h s.length (by rw [List.length_append]; omega)
  rwa [List.take_left' rfl] at this
theorem own_same {A : Option Addr} {n m c c' : Nat} : (Value.slice A n c).ownBlock = (Value.slice A m c').ownBlock := by cases A <;> rfl
set_option maxHeartbeats 16000000 in
set_option maxRecDepth 100000 in
theorem tops_any {l : List Nd} {tr : Nat → Ex} (htr : TrOk l tr) (A : Option Addr) (c n : Nat) (w : World) (hln : l.length = n) (h0 : 0 < n) (hs : (tr (n - 1)).size = n) (h60 : n ≤ 60) (hdp : ∀ i, i < n → (tr i).deep ≤ 60) (hr : Rd nenc 5 w w.heap.size A l) :
  Calls Tryz.prog 143 #[.slice A n c] w (TopsP tr n w) := by
 have HS := Lib.hid hs; have HLN := Lib.hid hln; have HTR := Lib.hid htr; have HDP := Lib.hid hdp
 clear hs hln htr hdp
 go_enter Tryz.func143, Tryz.ntmps143
 go_wp2_with fail
 go_loopw [4, 5, 17] (fun va vs i wr => ∃ (k : Nat) (S : List Nat), k ≤ n ∧ i = .int .i64 k ∧ Own tpenc 3 wr w.heap.size 230 va (allT tr k) ∧ Own tpenc 3 wr w.heap.size 230 vs (S.map (tpT tr)) ∧ Stk tr k S ∧ (va.ownBlock = none ∨ va.ownBlock ≠ vs.ownBlock) ∧ Below w.heap.size w wr) (fun _ _ i _ => n - (intOf i).toNat)
 case atStart => exact ⟨0, [], Nat.zero_le _, rfl, Own.nil _ _ _, Own.nil _ _ _, .nil, .inl rfl, Below.refl _ _⟩
 case round =>
  obtain ⟨k, S, hk, rfl, owa, ows, hstk, hap, hb⟩ := hrel
  by_cases hlt : k < n
  ·obtain ⟨x, hx⟩ : ∃ x, l[k]? = some x := ⟨_, List.getElem?_eq_getElem (by rw [HLN.out]; exact hlt)⟩
   obtain ⟨b, off, rfl, hbb, f0, f1, f2, f3, f4⟩ := nd_cells (rd_grown hr hb) hx
   have d1 : decide ((k : Int) < (n : Int)) = true := by simp; omega
   have d1' : decide (k < n) = true := by simp [hlt]
   have k1 : (0 : Int) ≤ (k : Int) := by omega
   have k2 : (k : Int) < (n : Int) := by omega
   have e1 : IntKind.i64.wrap ((k : Int) + 1) = (k : Int) + 1 := IntWalk.i64_in _ (by omega)
   have hSk := hstk.le
   have hdec := HTR.out k x hx
   have hdk := HDP.out k hlt
   clear hx
   have HL := Lib.hid hlt
   clear hlt
   obtain ⟨xk, xn, xa, xb, xp⟩ := x
   simp only at f0 f1 f2 f3 f4
   rcases hdec with ⟨e, hk', ha0, hb0, hp⟩ | ⟨j, hj, e, hk', hn0, ha, hb0, hp⟩ | ⟨j, m, hj, hm, e, hk', hn0, ha, hb0, hp⟩
   ·obtain rfl : xa = 0 := ha0
    obtain rfl : xb = 0 := hb0
    obtain ⟨hp1, hp2⟩ : 0 ≤ xp ∧ xp ≤ 400 := hp
    have hk' : lfok xk xn := hk'
    have hkk : 1 ≤ xk ∧ xk ≤ 19 := by have := hk'.1; omega
    have hpn : prtN xk = 0 := by unfold prtN; rw [if_pos (by have := hk'.1; omega)]
    obtain ⟨T, hT, hST⟩ : ∃ T : List Nat, T = S ∧ Stk tr (k + 1) (T ++ [k]) := ⟨S, rfl, hstk.lf (by rw [e]; rfl)⟩
    have hy : tpT tr k = ⟨k, 1, 1⟩ := by simp [tpT, e, Ex.size, Ex.deep]
    by_cases hk1 : xk = 1
    ·have g1 : (xk == 1) = true := by simp [hk1]
     have g2 : 0 ≤ xn := hk'.2.1.1
     clear hk1
     subst hT
     obtain ⟨nt, hnt⟩ : ∃ nt, (T.map (tpT tr)).length = nt := ⟨_, rfl⟩
     have hns : (List.map (tpT tr) T).length = nt + 0 := by rw [← hnt]; simp
     obtain ⟨As, cs, rfl, hsc, hsz0⟩ := own_shape_z ows hns
     have hrs := Own.rd tpenc_len ows
     have hcm := own_max ows
     have ht60 : nt + 0 ≤ 60 := by rw [List.length_map] at hnt; (try simp at hSk); omega
     have owt : Own tpenc 3 wr w.heap.size 230 (.slice As nt cs) (T.map (tpT tr)) := by
      have h := ows
      rw [Nat.add_zero] at h; exact h
     have hno : ∀ g, wr.heap.size ≤ g → some g ≠ (Value.slice As nt cs).ownBlock := fun g hg => own_far owt hg
     have hap2 : u4.ownBlock = none ∨ u4.ownBlock ≠ (Value.slice As nt cs).ownBlock := by rw [own_same (m := nt + 0) (c' := cs)]; exact hap
     have hpt : ∀ W, Calls Tryz.prog 158 #[.int .u8 xk] W fun e w' => e = .returned (.tuple #[.int .i64 0, .int .i64 0]) ∧ W = w' := fun W => by
      have := nparts_any xk hkk W
      rw [hpn] at this
      exact this
     have dx : decide (((nt + 0 : Nat) : Int) < 0) = false := by first | (simp; omega) | simp
     have hp3 : ¬ 400 < xp := by omega
     have HPT := Lib.hid hpt; have HNS := Lib.hid hns; have HNT := Lib.hid hnt; have HAP := Lib.hid hap2; have HY := Lib.hid hy; have HST := Lib.hid hST; have HNO := Lib.hid hno; have HKX := Lib.hid hk'
     have hl := (Loc.nil wr).new [.int .u8 xk, .int .i64 xn, .int .i64 0, .int .i64 0, .int .i64 xp] 133
     have hb2 : Below wr.heap.size wr (wr.alloc (.cells #[.int .u8 xk, .int .i64 xn, .int .i64 0, .int .i64 0, .int .i64 xp] 133)) := below_new (Below.refl _ _) _
     clear hpt hns hnt hap hap2 hy hST hno hk' hpn hkk e ows hstk hsz0 hSk hdk
     go_wp2_with fail
     go_at_call 158
     refine (HPT.out _).mono ?_
     rintro r w1 ⟨rfl, rfl⟩
     have hF := hl
     (repeat unfold Loc at hF)
     go_wp2_with fail
     go_at_call 159
     refine (pop_lit 0 nt 0 _ rfl (by omega) HNS.out (by omega) hsc (by omega) hcm (rd_grown hrs hb2)).mono ?_
     rintro r w2 ⟨X, Y, rfl, hrp, hbp⟩
     have hl2 := hl.below hbp
     have hb3 : Below wr.heap.size wr w2 := below_then hb2 hbp
     clear hb2 hbp hl hrs hcm
     clear hF
     have q0 : wr.heap.size < w2.heap.size := hl2.1
     have q1 : wr.heap.size < w2.heap.size + 1 := by omega
     have q2 : wr.heap.size < w2.heap.size + 1 + 1 := by omega
     have q3 : wr.heap.size < w2.heap.size + 1 + 1 + 1 := by omega
     have hF := hl2
     (repeat unfold Loc at hF)
     go_wp2_with fail
     refine wp_loop_rounds 1 ?_
     rw [rounds_succ]
     go_upto_region 25 with (fail)
     obtain ⟨Z, hZ, hlt, hbz⟩ : ∃ Z, Z = (w2.alloc (.cells #[.int .u8 xk, .int .i64 xn, .int .i64 0, .int .i64 0, .int .i64 xp] 133)).alloc (.cells #[.int .i64 k, .int .i64 (1), .int .i64 (1)] 230) ∧ Loc Z [(w2.heap.size + 1, [.int .i64 k, .int .i64 (1), .int .i64 (1)])] ∧ Below w2.heap.size w2 Z := by
      refine ⟨_, rfl, ?_, below_new (below_new (Below.refl _ _) _) _⟩
      have g := (Loc.nil (w2.alloc (.cells #[.int .u8 xk, .int .i64 xn, .int .i64 0, .int .i64 0, .int .i64 xp] 133))).new [.int .i64 k, .int .i64 (1), .int .i64 (1)] 230
      rw [World.size_alloc] at g
      exact g
     rw [← hZ]
     have hb4 := below_then hb3 hbz
     have hsz := hb3.size
     have HZ := Lib.hid hZ
     clear hZ hF hl2
     have hF := hlt
     (repeat unfold Loc at hF)
     go_wp2_with (first
      | (at_builtin; refine wpList_app tp_el rfl (.tmp 92) (.tmp 94) rfl w.heap.size tpenc_len tp_one (T.map (tpT tr)) [⟨k, 1, 1⟩] rfl ((owt.below hb4).alloc _) rfl rfl (flat_new _ _ _ _ rfl _ rfl) (by rw [HNT.out]; omega) (by have := hb4.size; have := hb.size; simp; omega) ?_; intro v7 w7 own7 hgr7 hb7 hl7; have hl8 := (hlt.old _).grown hgr7 (by intro q hq; rw [List.mem_singleton] at hq; subst hq; exact HNO.out _ (by dsimp only; omega)); (repeat unfold Loc at hl8))
      | (at_builtin; refine wpList_app tp_el rfl (.tmp 96) (.tmp 98) rfl w.heap.size tpenc_len tp_one (allT tr k) [⟨k, 1, 1⟩] rfl ((((owa.below hb4).alloc _).grown hgr7 HAP.out).alloc _) rfl rfl (flat_new _ _ _ _ rfl _ rfl) (by rw [allT_len]; omega) (by have h1 := hb7.size; have h2 := hb4.size; have h3 := hb.size; simp at h1 ⊢; omega) ?_; intro v8 w8 own8 hgr8 hb8 hl9))
     go_roundw
     case rel => exact ⟨k + 1, T ++ [k], HL.out, by go_num, by rw [allT_succ, HY.out]; exact own8, by rw [List.map_append, List.map_cons, List.map_nil, HY.out]; exact (own7.alloc _).grown hgr8 (apart_symm (apart_after (((owa.below hb4).alloc _).grown hgr7 HAP.out) (apart_after ((owa.below hb4).alloc _) HAP.out hl7) (.inl rfl))), HST.out, apart_symm (apart_after (own7.alloc _) (apart_symm (apart_after ((owa.below hb4).alloc _) HAP.out hl7)) hl9), by have h1 := below_then hb hb4; have h2 := (h1.alloc h1.size _).trans hb7; exact (h2.alloc h2.size _).trans hb8⟩
     case measure => simp [intOf]; omega
    ·have g1 : (xk == 1) = false := by simp [hk1]
     obtain rfl : xn = 0 := hk'.2.2 hk1
     clear hk1
     subst hT
     obtain ⟨nt, hnt⟩ : ∃ nt, (T.map (tpT tr)).length = nt := ⟨_, rfl⟩
     have hns : (List.map (tpT tr) T).length = nt + 0 := by rw [← hnt]; simp
     obtain ⟨As, cs, rfl, hsc, hsz0⟩ := own_shape_z ows hns
     have hrs := Own.rd tpenc_len ows
     have hcm := own_max ows
     have ht60 : nt + 0 ≤ 60 := by rw [List.length_map] at hnt; (try simp at hSk); omega
     have owt : Own tpenc 3 wr w.heap.size 230 (.slice As nt cs) (T.map (tpT tr)) := by
      have h := ows
      rw [Nat.add_zero] at h; exact h
     have hno : ∀ g, wr.heap.size ≤ g → some g ≠ (Value.slice As nt cs).ownBlock := fun g hg => own_far owt hg
     have hap2 : u4.ownBlock = none ∨ u4.ownBlock ≠ (Value.slice As nt cs).ownBlock := by rw [own_same (m := nt + 0) (c' := cs)]; exact hap
     have hpt : ∀ W, Calls Tryz.prog 158 #[.int .u8 xk] W fun e w' => e = .returned (.tuple #[.int .i64 0, .int .i64 0]) ∧ W = w' := fun W => by
      have := nparts_any xk hkk W
      rw [hpn] at this
      exact this
     have dx : decide (((nt + 0 : Nat) : Int) < 0) = false := by first | (simp; omega) | simp
     have hp3 : ¬ 400 < xp := by omega
     have HPT := Lib.hid hpt; have HNS := Lib.hid hns; have HNT := Lib.hid hnt; have HAP := Lib.hid hap2; have HY := Lib.hid hy; have HST := Lib.hid hST; have HNO := Lib.hid hno; have HKX := Lib.hid hk'
     have hl := (Loc.nil wr).new [.int .u8 xk, .int .i64 0, .int .i64 0, .int .i64 0, .int .i64 xp] 133
     have hb2 : Below wr.heap.size wr (wr.alloc (.cells #[.int .u8 xk, .int .i64 0, .int .i64 0, .int .i64 0, .int .i64 xp] 133)) := below_new (Below.refl _ _) _
     clear hpt hns hnt hap hap2 hy hST hno hk' hpn hkk e ows hstk hsz0 hSk hdk
     go_wp2_with fail
     go_at_call 158
     refine (HPT.out _).mono ?_
     rintro r w1 ⟨rfl, rfl⟩
     have hF := hl
     (repeat unfold Loc at hF)
     go_wp2_with fail
     go_at_call 159
     refine (pop_lit 0 nt 0 _ rfl (by omega) HNS.out (by omega) hsc (by omega) hcm (rd_grown hrs hb2)).mono ?_
     rintro r w2 ⟨X, Y, rfl, hrp, hbp⟩
     have hl2 := hl.below hbp
     have hb3 : Below wr.heap.size wr w2 := below_then hb2 hbp
     clear hb2 hbp hl hrs hcm
     clear hF
     have q0 : wr.heap.size < w2.heap.size := hl2.1
     have q1 : wr.heap.size < w2.heap.size + 1 := by omega
     have q2 : wr.heap.size < w2.heap.size + 1 + 1 := by omega
     have q3 : wr.heap.size < w2.heap.size + 1 + 1 + 1 := by omega
     have hF := hl2
     (repeat unfold Loc at hF)
     go_wp2_with fail
     refine wp_loop_rounds 1 ?_
     rw [rounds_succ]
     go_upto_region 25 with (fail)
     obtain ⟨Z, hZ, hlt, hbz⟩ : ∃ Z, Z = (w2.alloc (.cells #[.int .u8 xk, .int .i64 0, .int .i64 0, .int .i64 0, .int .i64 xp] 133)).alloc (.cells #[.int .i64 k, .int .i64 (1), .int .i64 (1)] 230) ∧ Loc Z [(w2.heap.size + 1, [.int .i64 k, .int .i64 (1), .int .i64 (1)])] ∧ Below w2.heap.size w2 Z := by
      refine ⟨_, rfl, ?_, below_new (below_new (Below.refl _ _) _) _⟩
      have g := (Loc.nil (w2.alloc (.cells #[.int .u8 xk, .int .i64 0, .int .i64 0, .int .i64 0, .int .i64 xp] 133))).new [.int .i64 k, .int .i64 (1), .int .i64 (1)] 230
      rw [World.size_alloc] at g
      exact g
     rw [← hZ]
     have hb4 := below_then hb3 hbz
     have hsz := hb3.size
     have HZ := Lib.hid hZ
     clear hZ hF hl2
     have hF := hlt
     (repeat unfold Loc at hF)
     go_wp2_with (first
      | (at_builtin; refine wpList_app tp_el rfl (.tmp 92) (.tmp 94) rfl w.heap.size tpenc_len tp_one (T.map (tpT tr)) [⟨k, 1, 1⟩] rfl ((owt.below hb4).alloc _) rfl rfl (flat_new _ _ _ _ rfl _ rfl) (by rw [HNT.out]; omega) (by have := hb4.size; have := hb.size; simp; omega) ?_; intro v7 w7 own7 hgr7 hb7 hl7; have hl8 := (hlt.old _).grown hgr7 (by intro q hq; rw [List.mem_singleton] at hq; subst hq; exact HNO.out _ (by dsimp only; omega)); (repeat unfold Loc at hl8))
      | (at_builtin; refine wpList_app tp_el rfl (.tmp 96) (.tmp 98) rfl w.heap.size tpenc_len tp_one (allT tr k) [⟨k, 1, 1⟩] rfl ((((owa.below hb4).alloc _).grown hgr7 HAP.out).alloc _) rfl rfl (flat_new _ _ _ _ rfl _ rfl) (by rw [allT_len]; omega) (by have h1 := hb7.size; have h2 := hb4.size; have h3 := hb.size; simp at h1 ⊢; omega) ?_; intro v8 w8 own8 hgr8 hb8 hl9))
     go_roundw
     case rel => exact ⟨k + 1, T ++ [k], HL.out, by go_num, by rw [allT_succ, HY.out]; exact own8, by rw [List.map_append, List.map_cons, List.map_nil, HY.out]; exact (own7.alloc _).grown hgr8 (apart_symm (apart_after (((owa.below hb4).alloc _).grown hgr7 HAP.out) (apart_after ((owa.below hb4).alloc _) HAP.out hl7) (.inl rfl))), HST.out, apart_symm (apart_after (own7.alloc _) (apart_symm (apart_after ((owa.below hb4).alloc _) HAP.out hl7)) hl9), by have h1 := below_then hb hb4; have h2 := (h1.alloc h1.size _).trans hb7; exact (h2.alloc h2.size _).trans hb8⟩
     case measure => simp [intOf]; omega
   ·obtain rfl : xn = 0 := hn0
    obtain rfl : xa = j := ha
    obtain rfl : xb = 0 := hb0
    obtain ⟨hp1, hp2⟩ : 0 ≤ xp ∧ xp ≤ 400 := hp
    have hk' : xk = 5 ∨ xk = 6 := hk'
    have hkk : 1 ≤ xk ∧ xk ≤ 19 := by omega
    have hpn : prtN xk = 1 := by unfold prtN; rw [if_neg (by omega), if_pos (by omega)]
    have g1 : (xk == 1) = false := by simp; omega
    obtain ⟨T, hT, hST⟩ : ∃ T : List Nat, S = T ++ [j] ∧ Stk tr (k + 1) (T ++ [k]) := by
     subst hj
     exact hstk.un (by rw [e]; rfl)
    obtain ⟨sj, hsj⟩ : ∃ s, (tr j).size = s := ⟨_, rfl⟩
    obtain ⟨dj, hdj⟩ : ∃ s, (tr j).deep = s := ⟨_, rfl⟩
    have hsj1 := (tr j).size_pos
    have hdj1 := (tr j).deep_pos
    rw [hsj] at hsj1
    rw [hdj] at hdj1
    have hsz : sj ≤ 60 ∧ dj ≤ 60 := by
     have h1 := HDP.out j (by omega)
     have h2 := (tr_seg HTR.out (j + 1) j (by omega) (by rw [HLN.out]; omega)).1
     rw [hsj] at h2
     rw [hdj] at h1
     omega
    have hy : tpT tr k = ⟨k, 1 + (sj : Int), (dj : Int) + 1⟩ := by simp [tpT, e, Ex.size, Ex.deep, hsj, hdj]; omega
    have hyj : tpT tr j = ⟨j, sj, dj⟩ := by simp [tpT, hsj, hdj]
    have m0 : (0 : Int) ≤ (j : Int) := by omega
    have m1 : (j : Int) < 60 := by omega
    have m2 : (1 : Int) ≤ (sj : Int) := by omega
    have m3 : (sj : Int) ≤ 60 := by omega
    have m4 : (1 : Int) ≤ (dj : Int) := by omega
    have m5 : (dj : Int) ≤ 60 := by omega
    have m6 : (1 : Int) ≤ (dj : Int) + 1 := by omega
    have m7 : ¬ ((dj : Int) + 1 < 1) := by omega
    subst hT
    obtain ⟨nt, hnt⟩ : ∃ nt, (T.map (tpT tr)).length = nt := ⟨_, rfl⟩
    have hns : (List.map (tpT tr) (T ++ [j])).length = nt + 1 := by rw [← hnt]; simp
    obtain ⟨As, cs, rfl, hsc, hsz0⟩ := own_shape_z ows hns
    have hrs := Own.rd tpenc_len ows
    have hcm := own_max ows
    have ht60 : nt + 1 ≤ 60 := by rw [List.length_map] at hnt; (try simp at hSk); omega
    have owt : Own tpenc 3 wr w.heap.size 230 (.slice As nt cs) (T.map (tpT tr)) := by
     have h := ows
     rw [List.map_append] at h; have h2 := own_cut tpenc_len h; rwa [hnt] at h2
    have hno : ∀ g, wr.heap.size ≤ g → some g ≠ (Value.slice As nt cs).ownBlock := fun g hg => own_far owt hg
    have hap2 : u4.ownBlock = none ∨ u4.ownBlock ≠ (Value.slice As nt cs).ownBlock := by rw [own_same (m := nt + 1) (c' := cs)]; exact hap
    have hpt : ∀ W, Calls Tryz.prog 158 #[.int .u8 xk] W fun e w' => e = .returned (.tuple #[.int .i64 1, .int .i64 0]) ∧ W = w' := fun W => by
     have := nparts_any xk hkk W
     rw [hpn] at this
     exact this
    have dx : decide (((nt + 1 : Nat) : Int) < 1) = false := by first | (simp; omega) | simp
    have hp3 : ¬ 400 < xp := by omega
    have HPT := Lib.hid hpt; have HNS := Lib.hid hns; have HNT := Lib.hid hnt; have HAP := Lib.hid hap2; have HY := Lib.hid hy; have HST := Lib.hid hST; have HNO := Lib.hid hno; have HKX := Lib.hid hk'
    have hl := (Loc.nil wr).new [.int .u8 xk, .int .i64 0, .int .i64 j, .int .i64 0, .int .i64 xp] 133
    have hb2 : Below wr.heap.size wr (wr.alloc (.cells #[.int .u8 xk, .int .i64 0, .int .i64 j, .int .i64 0, .int .i64 xp] 133)) := below_new (Below.refl _ _) _
    clear hpt hns hnt hap hap2 hy hST hno hk' hpn hkk e ows hstk hsz0 hSk hdk
    have HJ := Lib.hid hj; have HSJ := Lib.hid hsj; have HDJ := Lib.hid hdj; have HYJ := Lib.hid hyj
    clear hj hsj hdj hyj
    go_wp2_with fail
    go_at_call 158
    refine (HPT.out _).mono ?_
    rintro r w1 ⟨rfl, rfl⟩
    have hF := hl
    (repeat unfold Loc at hF)
    go_wp2_with fail
    go_at_call 159
    refine (pop_lit 1 nt 1 _ rfl (by omega) HNS.out (by omega) hsc (by omega) hcm (rd_grown hrs hb2)).mono ?_
    rintro r w2 ⟨X, Y, rfl, hrp, hbp⟩
    have hl2 := hl.below hbp
    have hb3 : Below wr.heap.size wr w2 := below_then hb2 hbp
    clear hb2 hbp hl hrs hcm
    clear hF
    have q0 : wr.heap.size < w2.heap.size := hl2.1
    have q1 : wr.heap.size < w2.heap.size + 1 := by omega
    have q2 : wr.heap.size < w2.heap.size + 1 + 1 := by omega
    have q3 : wr.heap.size < w2.heap.size + 1 + 1 + 1 := by omega
    have hF := hl2
    (repeat unfold Loc at hF)
    have hdr : ((T ++ [j]).map (tpT tr)).drop nt = [⟨j, sj, dj⟩] := by rw [List.map_append, List.drop_left' HNT.out, List.map_cons, List.map_nil, HYJ.out]
    rw [hdr] at hrp
    obtain ⟨pb, po, rfl, hpb, p0, p1, p2⟩ := tp_cells hrp (k := 0) (x := ⟨j, sj, dj⟩) rfl
    simp only [Nat.zero_mul, Nat.add_zero] at p0 p1 p2
    clear hdr hrp
    have q4 : pb < w2.heap.size + 1 := by omega
    have q5 : pb < w2.heap.size + 1 + 1 := by omega
    have q6 : pb < w2.heap.size + 1 + 1 + 1 := by omega
    go_wp2_with fail
    refine wp_loop_rounds 2 ?_
    rw [rounds_succ]
    go_wp2_with fail
    rw [rounds_succ]
    go_upto_region 25 with (fail)
    obtain ⟨Z, hZ, hlt, hbz⟩ : ∃ Z, Z = ((w2.alloc (.cells #[.int .u8 xk, .int .i64 0, .int .i64 j, .int .i64 0, .int .i64 xp] 133)).alloc (.cells #[.int .i64 k, .int .i64 (1 + (sj : Int)), .int .i64 ((dj : Int) + 1)] 230)).alloc (.cells #[.int .i64 j, .int .i64 sj, .int .i64 dj] 230) ∧ Loc Z [(w2.heap.size + 1, [.int .i64 k, .int .i64 (1 + (sj : Int)), .int .i64 ((dj : Int) + 1)])] ∧ Below w2.heap.size w2 Z := by
     refine ⟨_, rfl, ?_, below_new (below_new (below_new (Below.refl _ _) _) _) _⟩
     have g := (Loc.nil (w2.alloc (.cells #[.int .u8 xk, .int .i64 0, .int .i64 j, .int .i64 0, .int .i64 xp] 133))).new [.int .i64 k, .int .i64 (1 + (sj : Int)), .int .i64 ((dj : Int) + 1)] 230
     rw [World.size_alloc] at g
     exact g.old _
    rw [← hZ]
    have hb4 := below_then hb3 hbz
    have hsz := hb3.size
    have HZ := Lib.hid hZ
    clear hZ hF hl2
    have hF := hlt
    (repeat unfold Loc at hF)
    go_wp2_with (first
     | (at_builtin; refine wpList_app tp_el rfl (.tmp 92) (.tmp 94) rfl w.heap.size tpenc_len tp_one (T.map (tpT tr)) [⟨k, 1 + (sj : Int), (dj : Int) + 1⟩] rfl ((owt.below hb4).alloc _) rfl rfl (flat_new _ _ _ _ rfl _ rfl) (by rw [HNT.out]; omega) (by have := hb4.size; have := hb.size; simp; omega) ?_; intro v7 w7 own7 hgr7 hb7 hl7; have hl8 := (hlt.old _).grown hgr7 (by intro q hq; rw [List.mem_singleton] at hq; subst hq; exact HNO.out _ (by dsimp only; omega)); (repeat unfold Loc at hl8))
     | (at_builtin; refine wpList_app tp_el rfl (.tmp 96) (.tmp 98) rfl w.heap.size tpenc_len tp_one (allT tr k) [⟨k, 1 + (sj : Int), (dj : Int) + 1⟩] rfl ((((owa.below hb4).alloc _).grown hgr7 HAP.out).alloc _) rfl rfl (flat_new _ _ _ _ rfl _ rfl) (by rw [allT_len]; omega) (by have h1 := hb7.size; have h2 := hb4.size; have h3 := hb.size; simp at h1 ⊢; omega) ?_; intro v8 w8 own8 hgr8 hb8 hl9))
    go_roundw
    case rel => exact ⟨k + 1, T ++ [k], HL.out, by go_num, by rw [allT_succ, HY.out]; exact own8, by rw [List.map_append, List.map_cons, List.map_nil, HY.out]; exact (own7.alloc _).grown hgr8 (apart_symm (apart_after (((owa.below hb4).alloc _).grown hgr7 HAP.out) (apart_after ((owa.below hb4).alloc _) HAP.out hl7) (.inl rfl))), HST.out, apart_symm (apart_after (own7.alloc _) (apart_symm (apart_after ((owa.below hb4).alloc _) HAP.out hl7)) hl9), by have h1 := below_then hb hb4; have h2 := (h1.alloc h1.size _).trans hb7; exact (h2.alloc h2.size _).trans hb8⟩
    case measure => simp [intOf]; omega
   ·obtain rfl : xn = 0 := hn0
    obtain rfl : xa = m := ha
    obtain rfl : xb = j := hb0
    obtain ⟨hp1, hp2⟩ : 0 ≤ xp ∧ xp ≤ 400 := hp
    have hk' : 7 ≤ xk ∧ xk ≤ 19 := hk'
    have hkk : 1 ≤ xk ∧ xk ≤ 19 := by omega
    have hpn : prtN xk = 2 := by unfold prtN; rw [if_neg (by omega), if_neg (by omega)]
    have g1 : (xk == 1) = false := by simp; omega
    obtain ⟨T, hT, hST⟩ : ∃ T : List Nat, S = T ++ [m, j] ∧ Stk tr (k + 1) (T ++ [k]) := by
     subst hj
     exact hstk.bn hm (by rw [e]; rfl)
    obtain ⟨sj, hsj⟩ : ∃ s, (tr j).size = s := ⟨_, rfl⟩
    obtain ⟨dj, hdj⟩ : ∃ s, (tr j).deep = s := ⟨_, rfl⟩
    obtain ⟨sm, hsm⟩ : ∃ s, (tr m).size = s := ⟨_, rfl⟩
    obtain ⟨dm, hdm⟩ : ∃ s, (tr m).deep = s := ⟨_, rfl⟩
    have hsj1 := (tr j).size_pos
    have hdj1 := (tr j).deep_pos
    have hsm1 := (tr m).size_pos
    have hdm1 := (tr m).deep_pos
    rw [hsj] at hsj1 hm
    rw [hdj] at hdj1
    rw [hsm] at hsm1
    rw [hdm] at hdm1
    have hsz : (sj ≤ 60 ∧ dj ≤ 60) ∧ (sm ≤ 60 ∧ dm ≤ 60) := by
     have h1 := HDP.out j (by omega)
     have h2 := (tr_seg HTR.out (j + 1) j (by omega) (by rw [HLN.out]; omega)).1
     have h3 := HDP.out m (by omega)
     have h4 := (tr_seg HTR.out (m + 1) m (by omega) (by rw [HLN.out]; omega)).1
     rw [hsj] at h2
     rw [hdj] at h1
     rw [hsm] at h4
     rw [hdm] at h3
     omega
    have hyj : tpT tr j = ⟨j, sj, dj⟩ := by simp [tpT, hsj, hdj]
    have hym : tpT tr m = ⟨m, sm, dm⟩ := by simp [tpT, hsm, hdm]
    have m0 : (0 : Int) ≤ (j : Int) := by omega
    have m1 : (j : Int) < 60 := by omega
    have m2 : (1 : Int) ≤ (sj : Int) := by omega
    have m3 : (sj : Int) ≤ 60 := by omega
    have m4 : (1 : Int) ≤ (dj : Int) := by omega
    have m5 : (dj : Int) ≤ 60 := by omega
    have m8 : (0 : Int) ≤ (m : Int) := by omega
    have m9 : (m : Int) < 60 := by omega
    have m10 : (1 : Int) ≤ (sm : Int) := by omega
    have m11 : (sm : Int) ≤ 60 := by omega
    have m12 : (1 : Int) ≤ (dm : Int) := by omega
    have m13 : (dm : Int) ≤ 60 := by omega
    have m6 : (1 : Int) ≤ (dm : Int) + 1 := by omega
    have m7 : ¬ ((dm : Int) + 1 < 1) := by omega
    by_cases hdd : dm < dj
    ·have m14 : (dm : Int) + 1 ≤ (dj : Int) + 1 := by omega
     have m15 : ¬ ((dj : Int) + 1 < (dm : Int) + 1) := by omega
     have hy : tpT tr k = ⟨k, 1 + (sm : Int) + (sj : Int), (dj : Int) + 1⟩ := by simp [tpT, e, Ex.size, Ex.deep, hsj, hdj, hsm, hdm]; omega
     subst hT
     obtain ⟨nt, hnt⟩ : ∃ nt, (T.map (tpT tr)).length = nt := ⟨_, rfl⟩
     have hns : (List.map (tpT tr) (T ++ [m, j])).length = nt + 2 := by rw [← hnt]; simp
     obtain ⟨As, cs, rfl, hsc, hsz0⟩ := own_shape_z ows hns
     have hrs := Own.rd tpenc_len ows
     have hcm := own_max ows
     have ht60 : nt + 2 ≤ 60 := by rw [List.length_map] at hnt; (try simp at hSk); omega
     have owt : Own tpenc 3 wr w.heap.size 230 (.slice As nt cs) (T.map (tpT tr)) := by
      have h := ows
      rw [List.map_append] at h; have h2 := own_cut tpenc_len h; rwa [hnt] at h2
     have hno : ∀ g, wr.heap.size ≤ g → some g ≠ (Value.slice As nt cs).ownBlock := fun g hg => own_far owt hg
     have hap2 : u4.ownBlock = none ∨ u4.ownBlock ≠ (Value.slice As nt cs).ownBlock := by rw [own_same (m := nt + 2) (c' := cs)]; exact hap
     have hpt : ∀ W, Calls Tryz.prog 158 #[.int .u8 xk] W fun e w' => e = .returned (.tuple #[.int .i64 2, .int .i64 0]) ∧ W = w' := fun W => by
      have := nparts_any xk hkk W
      rw [hpn] at this
      exact this
     have dx : decide (((nt + 2 : Nat) : Int) < 2) = false := by first | (simp; omega) | simp
     have hp3 : ¬ 400 < xp := by omega
     have HPT := Lib.hid hpt; have HNS := Lib.hid hns; have HNT := Lib.hid hnt; have HAP := Lib.hid hap2; have HY := Lib.hid hy; have HST := Lib.hid hST; have HNO := Lib.hid hno; have HKX := Lib.hid hk'
     have hl := (Loc.nil wr).new [.int .u8 xk, .int .i64 0, .int .i64 m, .int .i64 j, .int .i64 xp] 133
     have hb2 : Below wr.heap.size wr (wr.alloc (.cells #[.int .u8 xk, .int .i64 0, .int .i64 m, .int .i64 j, .int .i64 xp] 133)) := below_new (Below.refl _ _) _
     clear hpt hns hnt hap hap2 hy hST hno hk' hpn hkk e ows hstk hsz0 hSk hdk
     have HJ := Lib.hid hj; have HSJ := Lib.hid hsj; have HDJ := Lib.hid hdj; have HYJ := Lib.hid hyj
     clear hj hsj hdj hyj hm hsm hdm
     have HYM := Lib.hid hym
     clear hym
     go_wp2_with fail
     go_at_call 158
     refine (HPT.out _).mono ?_
     rintro r w1 ⟨rfl, rfl⟩
     have hF := hl
     (repeat unfold Loc at hF)
     go_wp2_with fail
     go_at_call 159
     refine (pop_lit 2 nt 2 _ rfl (by omega) HNS.out (by omega) hsc (by omega) hcm (rd_grown hrs hb2)).mono ?_
     rintro r w2 ⟨X, Y, rfl, hrp, hbp⟩
     have hl2 := hl.below hbp
     have hb3 : Below wr.heap.size wr w2 := below_then hb2 hbp
     clear hb2 hbp hl hrs hcm
     clear hF
     have q0 : wr.heap.size < w2.heap.size := hl2.1
     have q1 : wr.heap.size < w2.heap.size + 1 := by omega
     have q2 : wr.heap.size < w2.heap.size + 1 + 1 := by omega
     have q3 : wr.heap.size < w2.heap.size + 1 + 1 + 1 := by omega
     have hF := hl2
     (repeat unfold Loc at hF)
     have hdr : ((T ++ [m, j]).map (tpT tr)).drop nt = [⟨m, sm, dm⟩, ⟨j, sj, dj⟩] := by rw [List.map_append, List.drop_left' HNT.out, List.map_cons, List.map_cons, List.map_nil, HYJ.out, HYM.out]
     rw [hdr] at hrp
     obtain ⟨pb, po, rfl, hpb, p0, p1, p2⟩ := tp_cells hrp (k := 0) (x := ⟨m, sm, dm⟩) rfl
     obtain ⟨pb', po', hpe, -, p3, p4, p5⟩ := tp_cells hrp (k := 1) (x := ⟨j, sj, dj⟩) rfl
     cases hpe
     simp only [Nat.zero_mul, Nat.add_zero, Nat.one_mul] at p0 p1 p2 p3 p4 p5
     clear hdr hrp
     have q4 : pb < w2.heap.size + 1 := by omega
     have q5 : pb < w2.heap.size + 1 + 1 := by omega
     have q6 : pb < w2.heap.size + 1 + 1 + 1 := by omega
     go_wp2_with fail
     refine wp_loop_rounds 3 ?_
     rw [rounds_succ]
     go_wp2_with fail
     rw [rounds_succ]
     go_wp2_with fail
     rw [rounds_succ]
     go_upto_region 25 with (fail)
     obtain ⟨Z, hZ, hlt, hbz⟩ : ∃ Z, Z = (((w2.alloc (.cells #[.int .u8 xk, .int .i64 0, .int .i64 m, .int .i64 j, .int .i64 xp] 133)).alloc (.cells #[.int .i64 k, .int .i64 (1 + (sm : Int) + (sj : Int)), .int .i64 ((dj : Int) + 1)] 230)).alloc (.cells #[.int .i64 m, .int .i64 sm, .int .i64 dm] 230)).alloc (.cells #[.int .i64 j, .int .i64 sj, .int .i64 dj] 230) ∧ Loc Z [(w2.heap.size + 1, [.int .i64 k, .int .i64 (1 + (sm : Int) + (sj : Int)), .int .i64 ((dj : Int) + 1)])] ∧ Below w2.heap.size w2 Z := by
      refine ⟨_, rfl, ?_, below_new (below_new (below_new (below_new (Below.refl _ _) _) _) _) _⟩
      have g := (Loc.nil (w2.alloc (.cells #[.int .u8 xk, .int .i64 0, .int .i64 m, .int .i64 j, .int .i64 xp] 133))).new [.int .i64 k, .int .i64 (1 + (sm : Int) + (sj : Int)), .int .i64 ((dj : Int) + 1)] 230
      rw [World.size_alloc] at g
      exact (g.old _).old _
     rw [← hZ]
     have hb4 := below_then hb3 hbz
     have hsz := hb3.size
     have HZ := Lib.hid hZ
     clear hZ hF hl2
     have hF := hlt
     (repeat unfold Loc at hF)
     go_wp2_with (first
      | (at_builtin; refine wpList_app tp_el rfl (.tmp 92) (.tmp 94) rfl w.heap.size tpenc_len tp_one (T.map (tpT tr)) [⟨k, 1 + (sm : Int) + (sj : Int), (dj : Int) + 1⟩] rfl ((owt.below hb4).alloc _) rfl rfl (flat_new _ _ _ _ rfl _ rfl) (by rw [HNT.out]; omega) (by have := hb4.size; have := hb.size; simp; omega) ?_; intro v7 w7 own7 hgr7 hb7 hl7; have hl8 := (hlt.old _).grown hgr7 (by intro q hq; rw [List.mem_singleton] at hq; subst hq; exact HNO.out _ (by dsimp only; omega)); (repeat unfold Loc at hl8))
      | (at_builtin; refine wpList_app tp_el rfl (.tmp 96) (.tmp 98) rfl w.heap.size tpenc_len tp_one (allT tr k) [⟨k, 1 + (sm : Int) + (sj : Int), (dj : Int) + 1⟩] rfl ((((owa.below hb4).alloc _).grown hgr7 HAP.out).alloc _) rfl rfl (flat_new _ _ _ _ rfl _ rfl) (by rw [allT_len]; omega) (by have h1 := hb7.size; have h2 := hb4.size; have h3 := hb.size; simp at h1 ⊢; omega) ?_; intro v8 w8 own8 hgr8 hb8 hl9))
     go_roundw
     case rel => exact ⟨k + 1, T ++ [k], HL.out, by go_num, by rw [allT_succ, HY.out]; exact own8, by rw [List.map_append, List.map_cons, List.map_nil, HY.out]; exact (own7.alloc _).grown hgr8 (apart_symm (apart_after (((owa.below hb4).alloc _).grown hgr7 HAP.out) (apart_after ((owa.below hb4).alloc _) HAP.out hl7) (.inl rfl))), HST.out, apart_symm (apart_after (own7.alloc _) (apart_symm (apart_after ((owa.below hb4).alloc _) HAP.out hl7)) hl9), by have h1 := below_then hb hb4; have h2 := (h1.alloc h1.size _).trans hb7; exact (h2.alloc h2.size _).trans hb8⟩
     case measure => simp [intOf]; omega
    ·have m15 : ¬ ((dm : Int) + 1 < (dj : Int) + 1) := by omega
     have m16 : (dj : Int) + 1 ≤ (dm : Int) + 1 := by omega
     have hy : tpT tr k = ⟨k, 1 + (sm : Int) + (sj : Int), (dm : Int) + 1⟩ := by simp [tpT, e, Ex.size, Ex.deep, hsj, hdj, hsm, hdm]; omega
     subst hT
     obtain ⟨nt, hnt⟩ : ∃ nt, (T.map (tpT tr)).length = nt := ⟨_, rfl⟩
     have hns : (List.map (tpT tr) (T ++ [m, j])).length = nt + 2 := by rw [← hnt]; simp
     obtain ⟨As, cs, rfl, hsc, hsz0⟩ := own_shape_z ows hns
     have hrs := Own.rd tpenc_len ows
     have hcm := own_max ows
     have ht60 : nt + 2 ≤ 60 := by rw [List.length_map] at hnt; (try simp at hSk); omega
     have owt : Own tpenc 3 wr w.heap.size 230 (.slice As nt cs) (T.map (tpT tr)) := by
      have h := ows
      rw [List.map_append] at h; have h2 := own_cut tpenc_len h; rwa [hnt] at h2
     have hno : ∀ g, wr.heap.size ≤ g → some g ≠ (Value.slice As nt cs).ownBlock := fun g hg => own_far owt hg
     have hap2 : u4.ownBlock = none ∨ u4.ownBlock ≠ (Value.slice As nt cs).ownBlock := by rw [own_same (m := nt + 2) (c' := cs)]; exact hap
     have hpt : ∀ W, Calls Tryz.prog 158 #[.int .u8 xk] W fun e w' => e = .returned (.tuple #[.int .i64 2, .int .i64 0]) ∧ W = w' := fun W => by
      have := nparts_any xk hkk W
      rw [hpn] at this
      exact this
     have dx : decide (((nt + 2 : Nat) : Int) < 2) = false := by first | (simp; omega) | simp
     have hp3 : ¬ 400 < xp := by omega
     have HPT := Lib.hid hpt; have HNS := Lib.hid hns; have HNT := Lib.hid hnt; have HAP := Lib.hid hap2; have HY := Lib.hid hy; have HST := Lib.hid hST; have HNO := Lib.hid hno; have HKX := Lib.hid hk'
     have hl := (Loc.nil wr).new [.int .u8 xk, .int .i64 0, .int .i64 m, .int .i64 j, .int .i64 xp] 133
     have hb2 : Below wr.heap.size wr (wr.alloc (.cells #[.int .u8 xk, .int .i64 0, .int .i64 m, .int .i64 j, .int .i64 xp] 133)) := below_new (Below.refl _ _) _
     clear hpt hns hnt hap hap2 hy hST hno hk' hpn hkk e ows hstk hsz0 hSk hdk
     have HJ := Lib.hid hj; have HSJ := Lib.hid hsj; have HDJ := Lib.hid hdj; have HYJ := Lib.hid hyj
     clear hj hsj hdj hyj hm hsm hdm
     have HYM := Lib.hid hym
     clear hym
     go_wp2_with fail
     go_at_call 158
     refine (HPT.out _).mono ?_
     rintro r w1 ⟨rfl, rfl⟩
     have hF := hl
     (repeat unfold Loc at hF)
     go_wp2_with fail
     go_at_call 159
     refine (pop_lit 2 nt 2 _ rfl (by omega) HNS.out (by omega) hsc (by omega) hcm (rd_grown hrs hb2)).mono ?_
     rintro r w2 ⟨X, Y, rfl, hrp, hbp⟩
     have hl2 := hl.below hbp
     have hb3 : Below wr.heap.size wr w2 := below_then hb2 hbp
     clear hb2 hbp hl hrs hcm
     clear hF
     have q0 : wr.heap.size < w2.heap.size := hl2.1
     have q1 : wr.heap.size < w2.heap.size + 1 := by omega
     have q2 : wr.heap.size < w2.heap.size + 1 + 1 := by omega
     have q3 : wr.heap.size < w2.heap.size + 1 + 1 + 1 := by omega
     have hF := hl2
     (repeat unfold Loc at hF)
     have hdr : ((T ++ [m, j]).map (tpT tr)).drop nt = [⟨m, sm, dm⟩, ⟨j, sj, dj⟩] := by rw [List.map_append, List.drop_left' HNT.out, List.map_cons, List.map_cons, List.map_nil, HYJ.out, HYM.out]
     rw [hdr] at hrp
     obtain ⟨pb, po, rfl, hpb, p0, p1, p2⟩ := tp_cells hrp (k := 0) (x := ⟨m, sm, dm⟩) rfl
     obtain ⟨pb', po', hpe, -, p3, p4, p5⟩ := tp_cells hrp (k := 1) (x := ⟨j, sj, dj⟩) rfl
     cases hpe
     simp only [Nat.zero_mul, Nat.add_zero, Nat.one_mul] at p0 p1 p2 p3 p4 p5
     clear hdr hrp
     have q4 : pb < w2.heap.size + 1 := by omega
     have q5 : pb < w2.heap.size + 1 + 1 := by omega
     have q6 : pb < w2.heap.size + 1 + 1 + 1 := by omega
     go_wp2_with fail
     refine wp_loop_rounds 3 ?_
     rw [rounds_succ]
     go_wp2_with fail
     rw [rounds_succ]
     go_wp2_with fail
     rw [rounds_succ]
     go_upto_region 25 with (fail)
     obtain ⟨Z, hZ, hlt, hbz⟩ : ∃ Z, Z = (((w2.alloc (.cells #[.int .u8 xk, .int .i64 0, .int .i64 m, .int .i64 j, .int .i64 xp] 133)).alloc (.cells #[.int .i64 k, .int .i64 (1 + (sm : Int) + (sj : Int)), .int .i64 ((dm : Int) + 1)] 230)).alloc (.cells #[.int .i64 m, .int .i64 sm, .int .i64 dm] 230)).alloc (.cells #[.int .i64 j, .int .i64 sj, .int .i64 dj] 230) ∧ Loc Z [(w2.heap.size + 1, [.int .i64 k, .int .i64 (1 + (sm : Int) + (sj : Int)), .int .i64 ((dm : Int) + 1)])] ∧ Below w2.heap.size w2 Z := by
      refine ⟨_, rfl, ?_, below_new (below_new (below_new (below_new (Below.refl _ _) _) _) _) _⟩
      have g := (Loc.nil (w2.alloc (.cells #[.int .u8 xk, .int .i64 0, .int .i64 m, .int .i64 j, .int .i64 xp] 133))).new [.int .i64 k, .int .i64 (1 + (sm : Int) + (sj : Int)), .int .i64 ((dm : Int) + 1)] 230
      rw [World.size_alloc] at g
      exact (g.old _).old _
     rw [← hZ]
     have hb4 := below_then hb3 hbz
     have hsz := hb3.size
     have HZ := Lib.hid hZ
     clear hZ hF hl2
     have hF := hlt
     (repeat unfold Loc at hF)
     go_wp2_with (first
      | (at_builtin; refine wpList_app tp_el rfl (.tmp 92) (.tmp 94) rfl w.heap.size tpenc_len tp_one (T.map (tpT tr)) [⟨k, 1 + (sm : Int) + (sj : Int), (dm : Int) + 1⟩] rfl ((owt.below hb4).alloc _) rfl rfl (flat_new _ _ _ _ rfl _ rfl) (by rw [HNT.out]; omega) (by have := hb4.size; have := hb.size; simp; omega) ?_; intro v7 w7 own7 hgr7 hb7 hl7; have hl8 := (hlt.old _).grown hgr7 (by intro q hq; rw [List.mem_singleton] at hq; subst hq; exact HNO.out _ (by dsimp only; omega)); (repeat unfold Loc at hl8))
      | (at_builtin; refine wpList_app tp_el rfl (.tmp 96) (.tmp 98) rfl w.heap.size tpenc_len tp_one (allT tr k) [⟨k, 1 + (sm : Int) + (sj : Int), (dm : Int) + 1⟩] rfl ((((owa.below hb4).alloc _).grown hgr7 HAP.out).alloc _) rfl rfl (flat_new _ _ _ _ rfl _ rfl) (by rw [allT_len]; omega) (by have h1 := hb7.size; have h2 := hb4.size; have h3 := hb.size; simp at h1 ⊢; omega) ?_; intro v8 w8 own8 hgr8 hb8 hl9))
     go_roundw
     case rel => exact ⟨k + 1, T ++ [k], HL.out, by go_num, by rw [allT_succ, HY.out]; exact own8, by rw [List.map_append, List.map_cons, List.map_nil, HY.out]; exact (own7.alloc _).grown hgr8 (apart_symm (apart_after (((owa.below hb4).alloc _).grown hgr7 HAP.out) (apart_after ((owa.below hb4).alloc _) HAP.out hl7) (.inl rfl))), HST.out, apart_symm (apart_after (own7.alloc _) (apart_symm (apart_after ((owa.below hb4).alloc _) HAP.out hl7)) hl9), by have h1 := below_then hb hb4; have h2 := (h1.alloc h1.size _).trans hb7; exact (h2.alloc h2.size _).trans hb8⟩
     case measure => simp [intOf]; omega
  ·obtain rfl : k = n := by omega
   obtain ⟨q, hq⟩ : ∃ q, q + 1 = k := ⟨k - 1, by omega⟩
   have hS : S = [q] := by
    have h1 := HS.out
    subst hq
    exact hstk.whole (by simpa using h1)
   subst hS
   obtain ⟨As, cs, rfl, -, -⟩ := own_shape_z ows (n := 1) rfl
   have d1 : decide ((k : Int) < (k : Int)) = false := by simp
   have d1' : decide (k < k) = false := by simp
   clear hq
   go_wp2
   go_ret2
   exact ⟨_, rfl, owa, hb⟩
  theorem nd_info : (Tryz.prog.info? 133).map (fun i => (i.zero, i.size, i.bytes)) = some (some (.agg #[.int .u8 0, .int .i64 0, .int .i64 0, .int .i64 0, .int .i64 0]), 5, 40) := by kernel_rfl
theorem nd_el : ElOk Tryz.prog 22 133 5 40 := elOk nd_info Tryz.underlying22 rfl (by decide) (by decide)
theorem nd_one : OneCells nenc := by
 intro x u hu; simp [nenc] at hu; rcases hu with rfl | rfl | rfl | rfl | rfl <;> rfl
theorem in_info : (Tryz.prog.info? 3).map (fun i => (i.zero, i.size, i.bytes)) = some (some (.int .i64 0), 1, 8) := by kernel_rfl
theorem in_el : ElOk Tryz.prog 23 3 1 8 := elOk in_info Tryz.underlying23 rfl (by decide) (by decide)
theorem in_len (x : Int) : (ienc x).length = 1 := rfl
theorem in_one : OneCells ienc := by
 intro x u hu; simp [ienc] at hu; subst hu; rfl
set_option maxHeartbeats 2000000 in
set_option maxRecDepth 100000 in
theorem ndclone_any (A : Option Addr) (c n : Nat) (l : List Nd) (w : World) (hln : l.length = n) (hz : A = none → c = 0) (hn : n ≤ 1099511627776) (hr : Rd nenc 5 w w.heap.size A l) :
  Calls Tryz.prog 60 #[.slice A n c] w fun e w' => ∃ v, e = .returned v ∧ Own nenc 5 w' w.heap.size 133 v l ∧ Below w.heap.size w w' := by
 obtain ⟨i0, hi0, hz0, hz1, hz2⟩ := info_parts nd_info
 have HL := Lib.hid hln
 have hu : ∀ (w : World) (a : Option Addr) (n c n' c' : Nat), (binOp .eql 22 (.slice a n c) (.slice none n' c')).run Tryz.prog w = .ok (.bool a.isNone) w := fun w a n c n' c' => Lib.run_eql_slice_nil w _ _ a n c n' c' Tryz.underlying22
 cases A with
 | none =>
  obtain rfl := hz rfl
  obtain rfl := rd_none hr
  obtain rfl : n = 0 := hln.symm
  go_enter Tryz.func60, Tryz.ntmps60
  go_wp2
  go_ret
  exact ⟨_, rfl, Own.nil _ _ _, blr⟩
 | some ad =>
  clear hln
  go_enter Tryz.func60, Tryz.ntmps60
  go_wp2_with (at_builtin; refine wpList_append_copy rfl (.tmp 5) (.tmp 6) 22 rfl w.heap.size 133 i0 (.agg #[.int .u8 0, .int .i64 0, .int .i64 0, .int .i64 0, .int .i64 0]) 5 40 Tryz.underlying22 hi0 hz0 hz1 hz2 rfl (by decide) nenc nenc_len w.heap.size 0 l rfl (own_empty (heap_alloc_new w (.cells #[] 133)) (Nat.le_refl _)) (some ad) n c rfl HL.out hz (rd_grown hr blr) (oneCells_flat nd_one l) (by unfold maxLen; omega) (by omega) (by simp) ?_; intro g cap w2 hown2 hcap hg2 hb2)
  go_ret
  exact ⟨_, rfl, hown2, (below_new (Below.refl _ _) _).trans hb2⟩
set_option maxHeartbeats 2000000 in
set_option maxRecDepth 100000 in
theorem inclone_any (A : Option Addr) (c n : Nat) (l : List Int) (w : World) (hln : l.length = n) (hz : A = none → c = 0) (hn : n ≤ 1099511627776) (hr : Rd ienc 1 w w.heap.size A l) :
  Calls Tryz.prog 61 #[.slice A n c] w fun e w' => ∃ v, e = .returned v ∧ Own ienc 1 w' w.heap.size 3 v l ∧ Below w.heap.size w w' := by
 obtain ⟨i0, hi0, hz0, hz1, hz2⟩ := info_parts in_info
 have HL := Lib.hid hln
 have hu : ∀ (w : World) (a : Option Addr) (n c n' c' : Nat), (binOp .eql 23 (.slice a n c) (.slice none n' c')).run Tryz.prog w = .ok (.bool a.isNone) w := fun w a n c n' c' => Lib.run_eql_slice_nil w _ _ a n c n' c' Tryz.underlying23
 cases A with
 | none =>
  obtain rfl := hz rfl
  obtain rfl := rd_none hr
  obtain rfl : n = 0 := hln.symm
  go_enter Tryz.func61, Tryz.ntmps61
  go_wp2
  go_ret
  exact ⟨_, rfl, Own.nil _ _ _, blr⟩
 | some ad =>
  clear hln
  go_enter Tryz.func61, Tryz.ntmps61
  go_wp2_with (at_builtin; refine wpList_append_copy rfl (.tmp 5) (.tmp 6) 23 rfl w.heap.size 3 i0 (.int .i64 0) 1 8 Tryz.underlying23 hi0 hz0 hz1 hz2 rfl (by decide) ienc in_len w.heap.size 0 l rfl (own_empty (heap_alloc_new w (.cells #[] 3)) (Nat.le_refl _)) (some ad) n c rfl HL.out hz (rd_grown hr blr) (oneCells_flat in_one l) (by unfold maxLen; omega) (by omega) (by simp) ?_; intro g cap w2 hown2 hcap hg2 hb2)
  go_ret
  exact ⟨_, rfl, hown2, (below_new (Below.refl _ _) _).trans hb2⟩
/-- One cell of an element stored. -/
theorem nflat_set {α : Type} {enc : α → List Value} {sz : Nat} (henc : ∀ x, (enc x).length = sz) {x x' : α} {j : Nat} {u : Value} (hj : j < sz) (hu : (enc x).set j u = enc x') : ∀ (l : List α) (i : Nat), l[i]? = some x → (l.flatMap enc).set (i * sz + j) u = (l.set i x').flatMap enc
 | [], i, h => by simp at h
 | y :: l, 0, h => by
  simp only [List.getElem?_cons_zero, Option.some.injEq] at h
  subst h
  rw [List.flatMap_cons, Nat.zero_mul, Nat.zero_add, List.set_append_left _ _ (by rw [henc]; exact hj), hu, List.set_cons_zero, List.flatMap_cons]
 | y :: l, i + 1, h => by
  simp only [List.getElem?_cons_succ] at h
  rw [List.flatMap_cons, List.set_append_right _ _ (by rw [henc, Nat.add_mul]; omega), henc, show (i + 1) * sz + j - sz = i * sz + j by rw [Nat.add_mul]; omega, nflat_set henc hj hu l i h, List.set_cons_succ, List.flatMap_cons]
theorem own_put1 {α : Type} {enc : α → List Value} {sz : Nat} (henc : ∀ x, (enc x).length = sz) {w : World} {base : Nat} {e : TypeId} {g n c i j : Nat} {l : List α} {x : α} (x' : α) {u : Value} (h : Own enc sz w base e (.slice (some ⟨g, 0, none⟩) n c) l) (hx : l[i]? = some x) (hj : j < sz) (hu : (enc x).set j u = enc x') {q : Nat} (hq : q = i * sz + j) :
  Own enc sz (w.setCell ⟨g, q, none⟩ u) base e (.slice (some ⟨g, 0, none⟩) n c) (l.set i x') := by
 subst hq
 obtain ⟨A', c', e', _⟩ := h.form
 simp only [Value.slice.injEq] at e'
 obtain ⟨rfl, rfl, rfl⟩ := e'
 have h' : w.ownsRow base e sz (.slice (some ⟨g, 0, none⟩) l.length c) l.length (l.flatMap enc) := h
 have := (World.ownsRow.stored h' (i * sz + j) u).1
 rw [nflat_set henc hj hu l i hx] at this
 unfold Own
 rw [List.length_set]
 exact this
theorem own_frozen {α : Type} {enc : α → List Value} {sz : Nat} {w : World} {base : Nat} {e : TypeId} {g n c : Nat} {l : List α} (h : Own enc sz w base e (.slice (some ⟨g, 0, none⟩) n c) l) (q : Nat) : w.frozen? ⟨g, q, none⟩ = false := by
 obtain ⟨A', c', e', _⟩ := h.form
 simp only [Value.slice.injEq] at e'
 obtain ⟨rfl, rfl, rfl⟩ := e'
 exact World.ownsRow.frozenAt h q
/-- Nodes whose parts are near. -/
def nearN (x : Nd) : Prop := (1 ≤ x.k ∧ x.k ≤ 19) ∧ (0 ≤ x.a ∧ x.a ≤ 200) ∧ (0 ≤ x.b ∧ x.b ≤ 200)
theorem flat_near {e : Ex} (h : e.ok) : ∀ o : Nat, o + e.size ≤ 200 → ∀ x ∈ e.flat o, nearN x := by
 induction e with
 | lf k n p =>
  intro o _ x hx
  simp only [Ex.flat, List.mem_singleton] at hx
  subst hx
  have := h.1.1
  exact ⟨by dsimp only; omega, by dsimp only; omega, by dsimp only; omega⟩
 | un k p e ih =>
  intro o ho x hx
  obtain ⟨hk, _, he⟩ := h
  simp only [Ex.size] at ho
  simp only [Ex.flat, List.mem_append, List.mem_singleton] at hx
  rcases hx with hx | rfl
  ·exact ih he o (by omega) x hx
  ·have := e.size_pos
   exact ⟨by dsimp only; omega, by dsimp only; omega, by dsimp only; omega⟩
 | bn k p e f ih1 ih2 =>
  intro o ho x hx
  obtain ⟨hk, _, he, hf⟩ := h
  simp only [Ex.size] at ho
  simp only [Ex.flat, List.mem_append, List.mem_singleton] at hx
  rcases hx with hx | hx | rfl
  ·exact ih1 he o (by omega) x hx
  ·exact ih2 hf (o + e.size) (by omega) x (by rw [Int.natCast_add]; exact hx)
  ·have := e.size_pos
   have := f.size_pos
   exact ⟨by dsimp only; omega, by dsimp only; omega, by dsimp only; omega⟩
theorem take_drop_at {α : Type} (l : List α) (f : α → α) {k : Nat} {x : α} (h : l[k]? = some x) : ((l.take k).map f ++ l.drop k)[k]? = some x := by
 have hk := (List.getElem?_eq_some_iff.1 h).1
 rw [List.getElem?_append_right (by simp; omega)]
 simp [Nat.min_eq_left (Nat.le_of_lt hk), h]
theorem take_drop_set {α : Type} (l : List α) (f : α → α) {k : Nat} {x : α} (h : l[k]? = some x) : ((l.take k).map f ++ l.drop k).set k (f x) = (l.take (k + 1)).map f ++ l.drop (k + 1) := by
 obtain ⟨hk, rfl⟩ := List.getElem?_eq_some_iff.1 h
 rw [List.set_append_right _ _ (by simp; omega), List.length_map, List.length_take, Nat.min_eq_left (Nat.le_of_lt hk), Nat.sub_self, List.drop_eq_getElem_cons hk, List.set_cons_zero, List.take_succ_eq_append_getElem hk, List.map_append]
 simp
theorem list_set_same {α : Type} {l : List α} {k : Nat} {x : α} (h : l[k]? = some x) : l.set k x = l := by
 obtain ⟨hk, rfl⟩ := List.getElem?_eq_some_iff.1 h
 exact List.set_getElem_self hk
theorem own_ge {α : Type} {enc : α → List Value} {sz : Nat} {w : World} {base : Nat} {e : TypeId} {g n c : Nat} {l : List α} (h : Own enc sz w base e (.slice (some ⟨g, 0, none⟩) n c) l) : base ≤ g := (World.ownsRow.lt h g rfl).1
theorem own_two {w : World} {base : Nat} {e : TypeId} {g n c k : Nat} {l : List Nd} {xk xn xa xb xp a' b' : Int} (h : Own nenc 5 w base e (.slice (some ⟨g, 0, none⟩) n c) l) (hx : l[k]? = some ⟨xk, xn, xa, xb, xp⟩) :
  Own nenc 5 ((w.setCell ⟨g, k * 5 + 2, none⟩ (.int .i64 a')).setCell ⟨g, k * 5 + 3, none⟩ (.int .i64 b')) base e (.slice (some ⟨g, 0, none⟩) n c) (l.set k ⟨xk, xn, a', b', xp⟩) := by
 have h1 := own_put1 nenc_len ⟨xk, xn, a', xb, xp⟩ (u := .int .i64 a') h hx (j := 2) (by decide) rfl rfl
 have hk := (List.getElem?_eq_some_iff.1 hx).1
 have h2 := own_put1 nenc_len ⟨xk, xn, a', b', xp⟩ (u := .int .i64 b') h1 (i := k) (x := ⟨xk, xn, a', xb, xp⟩) (by simp [hk]) (j := 3) (by decide) rfl rfl
 rwa [List.set_set] at h2
def MovedP (l : List Nd) (d : Int) (w : World) (r : Ending) (w' : World) : Prop := ∃ v, r = .returned v ∧ Own nenc 5 w' w.heap.size 133 v (l.map (shiftN d)) ∧ Below w.heap.size w w'
set_option maxHeartbeats 8000000 in
set_option maxRecDepth 100000 in
theorem moved_any (l : List Nd) (d : Int) (hd : -200 ≤ d ∧ d ≤ 200) (hnear : ∀ x ∈ l, nearN x) (A : Option Addr) (c n : Nat) (w : World) (hln : l.length = n) (h0 : 0 < n) (hz : A = none → c = 0) (hn : n ≤ 200) (hr : Rd nenc 5 w w.heap.size A l) :
  Calls Tryz.prog 172 #[.slice A n c, .int .i64 d] w (MovedP l d w) := by
 obtain ⟨hd1, hd2⟩ := hd
 have hc := ndclone_any A c n l w hln hz (by omega) hr
 have HC := Lib.hid hc; have HLN := Lib.hid hln; have HNR := Lib.hid hnear
 clear hc hln hnear hz
 go_enter Tryz.func172, Tryz.ntmps172
 go_wp2_with fail
 go_at_call 60
 refine HC.out.mono ?_
 rintro r w1 ⟨v, rfl, own, hb1⟩
 obtain ⟨g, cap, rfl, -, -⟩ := own_some own (by
  rintro rfl
  obtain ⟨_, _, e, _⟩ := own.form
  injection e with _ e2 _
  rw [HLN.out] at e2
  omega)
 rw [HLN.out] at own ⊢
 go_wp2_with fail
 go_loopw [13] (fun i wr => ∃ k : Nat, k ≤ n ∧ i = .int .i64 k ∧ Own nenc 5 wr w.heap.size 133 (.slice (some ⟨g, 0, none⟩) n cap) ((l.take k).map (shiftN d) ++ l.drop k) ∧ Below w.heap.size w wr) (fun i _ => n - (intOf i).toNat)
 case atStart => exact ⟨0, Nat.zero_le _, rfl, by simpa using own, hb1⟩
 case round =>
  obtain ⟨k, hk, rfl, ownr, hb⟩ := hrel
  clear own hb1
  by_cases hlt : k < n
  ·obtain ⟨x, hx⟩ : ∃ x, l[k]? = some x := ⟨_, List.getElem?_eq_getElem (by rw [HLN.out]; exact hlt)⟩
   have hat := take_drop_at l (shiftN d) hx
   have hst := take_drop_set l (shiftN d) hx
   obtain ⟨b, off, hA, hbb, f0, f1, f2, f3, f4⟩ := nd_cells (Own.rd nenc_len ownr) hat
   cases hA
   have hfz : ∀ q, wr.frozen? ⟨g, q, none⟩ = false := own_frozen ownr
   have hnr := HNR.out x (List.mem_of_getElem? hx)
   obtain ⟨xk, xn, xa, xb, xp⟩ := x
   obtain ⟨⟨n1, n2⟩, ⟨n3, n4⟩, n5, n6⟩ := hnr
   simp only at f0 f1 f2 f3 f4 n1 n2 n3 n4 n5 n6
   have d1 : decide ((k : Int) < (n : Int)) = true := by simp; omega
   have d1' : decide (k < n) = true := by simp [hlt]
   have k1 : (0 : Int) ≤ (k : Int) := by omega
   have k2 : (k : Int) < (n : Int) := by omega
   have e1 : IntKind.i64.wrap ((k : Int) + 1) = (k : Int) + 1 := IntWalk.i64_in _ (by omega)
   have HAT := Lib.hid hat; have HST := Lib.hid hst; have HLT := Lib.hid hlt; have HX := Lib.hid hx
   clear hat hst hlt hx
   simp only [Nat.zero_add] at f0 f1 f2 f3 f4
   have hpp := fun W => nparts_any xk ⟨n1, n2⟩ W
   by_cases h4 : xk ≤ 4
   ·have hpn : prtN xk = 0 := by unfold prtN; rw [if_pos h4]
    rw [hpn] at hpp
    have HPP := Lib.hid hpp
    have hsame : shiftN d ⟨xk, xn, xa, xb, xp⟩ = ⟨xk, xn, xa, xb, xp⟩ := by unfold shiftN; simp; omega
    have HS := Lib.hid hsame
    clear hpp hpn hsame
    go_wp2_with fail
    go_at_call 158
    refine (HPP.out _).mono ?_
    rintro r w2 ⟨rfl, rfl⟩
    go_wp2_with fail
    go_roundw
    case rel => exact ⟨k + 1, HLT.out, by go_num, by rw [← HST.out, HS.out, list_set_same HAT.out]; exact ownr, hb⟩
    case measure => simp [intOf]; omega
   ·have e5 : IntKind.i64.wrap (xa + d) = xa + d := IntWalk.i64_in _ (by omega)
    have e6 : IntKind.i64.wrap (xb + d) = xb + d := IntWalk.i64_in _ (by omega)
    by_cases h6 : xk ≤ 6
    ·have hpn : prtN xk = 1 := by unfold prtN; rw [if_neg h4, if_pos h6]
     rw [hpn] at hpp
     have HPP := Lib.hid hpp
     have hsame : shiftN d ⟨xk, xn, xa, xb, xp⟩ = ⟨xk, xn, xa + d, xb, xp⟩ := by unfold shiftN; simp; omega
     have HS := Lib.hid hsame
     clear hpp hpn hsame
     go_wp2_with fail
     go_at_call 158
     refine (HPP.out _).mono ?_
     rintro r w2 ⟨rfl, rfl⟩
     go_wp2_with fail
     go_roundw
     case rel => exact ⟨k + 1, HLT.out, by go_num, by rw [← HST.out, HS.out]; exact own_put1 nenc_len ⟨xk, xn, xa + d, xb, xp⟩ ownr HAT.out (j := 2) (by decide) rfl rfl, below_put hb (own_ge ownr) _⟩
     case measure => simp [intOf]; omega
    ·have hpn : prtN xk = 2 := by unfold prtN; rw [if_neg h4, if_neg h6]
     rw [hpn] at hpp
     have HPP := Lib.hid hpp
     have hsame : shiftN d ⟨xk, xn, xa, xb, xp⟩ = ⟨xk, xn, xa + d, xb + d, xp⟩ := by unfold shiftN; simp; omega
     have HS := Lib.hid hsame
     clear hpp hpn hsame
     go_wp2_with fail
     go_at_call 158
     refine (HPP.out _).mono ?_
     rintro r w2 ⟨rfl, rfl⟩
     go_wp2_with fail
     go_roundw
     case rel => exact ⟨k + 1, HLT.out, by go_num, by rw [← HST.out, HS.out]; exact own_two ownr HAT.out, below_put (below_put hb (own_ge ownr) _) (own_ge ownr) _⟩
     case measure => simp [intOf]; omega
  ·obtain rfl : k = n := by omega
   have d1 : decide ((k : Int) < (k : Int)) = false := by simp
   have d1' : decide (k < k) = false := by simp
   go_wp2_with fail
   go_ret
   refine ⟨_, rfl, ?_, hb⟩
   rw [List.take_of_length_le (by rw [HLN.out]; exact Nat.le_refl _), List.drop_of_length_le (by rw [HLN.out]; exact Nat.le_refl _), List.append_nil] at ownr
   exact ownr
def ChkP (e : Ex) (w : World) (r : Ending) (w' : World) : Prop := ∃ v, r = .returned (.tuple #[v, .int .i64 0]) ∧ Own tpenc 3 w' w.heap.size 230 v (allT e.tr e.size) ∧ Below w.heap.size w w'
set_option maxHeartbeats 4000000 in
theorem nchk_any (e : Ex) (he : e.good) (A : Option Addr) (c n : Nat) (w : World) (hn : e.size = n) (hr : Rd nenc 5 w w.heap.size A (e.flat 0)) : Calls Tryz.prog 120 #[.slice A n c] w (ChkP e w) := by
 have hpos := e.size_pos
 obtain ⟨m, rfl⟩ : ∃ m, n = m + 1 := ⟨n - 1, by omega⟩
 have h60 : m + 1 ≤ 60 := by have := he.2.1; omega
 have htops := tops_any (trok_flat he.1) A c (m + 1) w (by rw [flat_len]; exact hn) (by omega) (by have h := tr_last e; rw [hn] at h; rw [h]; exact hn) h60 (fun i hi => by have := (deep_tr e i (by omega)).1; have := he.2.2; omega) hr
 have hd : e.tr m = e := by have h := tr_last e; rw [hn] at h; exact h
 have hdeep := he.2.2
 have d1 : decide (60 < m + 1) = false := by simp; omega
 have d2 : decide ((60 : Int) < ((m + 1 : Nat) : Int)) = false := by simp; omega
 have HT := Lib.hid htops; have HN := Lib.hid hn
 unfold ChkP
 rw [hn]
 obtain ⟨D, hD⟩ : ∃ D, e.deep = D := ⟨_, rfl⟩
 have hat : (allT e.tr (m + 1))[m]? = some ⟨m, (m + 1 : Nat), D⟩ := by rw [allT_at _ (by omega)]; simp [tpT, hd, hn, hD]
 rw [hD] at hdeep
 have d3 : decide ((20 : Int) < (D : Int)) = false := by simp; omega
 have d4 : decide (20 < D) = false := by simp; omega
 have HAT := Lib.hid hat
 clear htops hn hat hd hD hpos
 go_enter Tryz.func120, Tryz.ntmps120
 go_wp2_with fail
 go_at_call 143
 refine HT.out.mono ?_
 rintro r w2 ⟨v, rfl, own, hb⟩
 obtain ⟨At, ct, rfl, -, -⟩ := own_shape_z own (n := m + 1) (allT_len _ _)
 obtain ⟨b, off, rfl, hbb, f0, f1, f2⟩ := tp_cells (Own.rd tpenc_len own) HAT.out
 go_wp2_with fail
 go_ret2
 exact ⟨_, rfl, own, hb⟩
theorem ncheck_any (e : Ex) (he : e.good) (A : Option Addr) (c n : Nat) (w : World) (hn : e.size = n) (hr : Rd nenc 5 w w.heap.size A (e.flat 0)) : Calls Tryz.prog 84 #[.slice A n c] w fun r w' => r = .returned (.int .i64 0) ∧ Below w.heap.size w w' := by
 have h := nchk_any e he A c n w hn hr
 have H := Lib.hid h
 clear h hn
 go_enter Tryz.func84, Tryz.ntmps84
 go_wp2_with fail
 go_at_call 120
 refine H.out.mono ?_
 rintro r w2 ⟨v, rfl, own, hb⟩
 go_wp2_with fail
 go_ret
 exact ⟨rfl, hb⟩
set_option maxHeartbeats 4000000 in
theorem nsize_any (e : Ex) (he : e.good) (A : Option Addr) (c n i : Nat) (w : World) (hn : e.size = n) (hi : i < n) (hr : Rd nenc 5 w w.heap.size A (e.flat 0)) : Calls Tryz.prog 171 #[.slice A n c, .int .i64 i] w fun r w' => r = .returned (.tuple #[.int .i64 ((e.tr i).size : Nat), .int .i64 0]) ∧ Below w.heap.size w w' := by
 have h := nchk_any e he A c n w hn hr
 have h60 : n ≤ 60 := by have := he.2.1; omega
 obtain ⟨S, hS⟩ : ∃ S, (e.tr i).size = S := ⟨_, rfl⟩
 have hat : (allT e.tr e.size)[i]? = some ⟨i, S, (e.tr i).deep⟩ := by rw [allT_at _ (by omega)]; simp [tpT, hS]
 have hlen : (allT e.tr e.size).length = n := by rw [allT_len, hn]
 have H := Lib.hid h; have HAT := Lib.hid hat; have HL := Lib.hid hlen
 rw [hS]
 have d1 : decide (n ≤ i) = false := by simp; omega
 have d2 : decide ((n : Int) ≤ (i : Int)) = false := by simp; omega
 have k1 : (0 : Int) ≤ (i : Int) := by omega
 have k2 : (i : Int) < (n : Int) := by omega
 clear h hn hat hlen hS
 go_enter Tryz.func171, Tryz.ntmps171
 go_wp2_with fail
 go_at_call 120
 refine H.out.mono ?_
 rintro r w2 ⟨v, rfl, own, hb⟩
 obtain ⟨At, ct, rfl, -, -⟩ := own_shape_z own HL.out
 obtain ⟨b, off, rfl, hbb, f0, f1, f2⟩ := tp_cells (Own.rd tpenc_len own) HAT.out
 go_wp2_with fail
 go_ret2
 exact ⟨rfl, hb⟩
end Go.Proofs.YtnljihjhmgpcoaaGreat
