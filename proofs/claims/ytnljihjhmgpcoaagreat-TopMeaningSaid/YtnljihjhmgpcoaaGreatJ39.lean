/- Lemmas and contracts for the statement, joined into one text: FoldTops. The conditions of each stand at its head. -/
import Derived.Test.YtnljihjhmgpcoaaGreatJ1
import Derived.Test.YtnljihjhmgpcoaaGreatJ38
import Derived.Test.YtnljihjhmgpcoaaGreatJ31
import Derived.Test.YtnljihjhmgpcoaaGreatJ33
import Derived.Deep.LoopGhost
namespace Go.Proofs.YtnljihjhmgpcoaaGreat
open Go Go.RowKit Go.ChangeShapes Go.WideShapes Go.ChangeAt Go.Deep
attribute [local go_sem] Oper.semAt_some
theorem own_keptB {α : Type} {enc : α → List Value} {sz : Nat} {w w' : World} {base : Nat} {e : TypeId} {v : Value} {l : List α} (h : Own enc sz w base e v l) (hk : KeptB base w w') : Own enc sz w' base e v l := by
 obtain ⟨h1, h2⟩ := h
 refine ⟨h1, ?_⟩
 rcases h2 with h2 | ⟨g, cap, cur, hv, hg, hh, r⟩
 ·exact .inl h2
 ·exact .inr ⟨g, cap, cur, hv, hg, (hk.2 g hg (Array.getElem?_eq_some_iff.1 hh).1).trans hh, r⟩
/-- What the iterator reads: the nodes, and the function that it asks. -/
structure TopsJ (l : List Nd) (A : Option Addr) (n c lb ib fb : Nat) (W : World) : Prop where
 box : W.cell? ⟨lb, 0, none⟩ = some (.slice A n c)
 lbs : lb < W.heap.size
 nds : Rd nenc 5 W W.heap.size A l
 into : W.cell? ⟨ib, 0, none⟩ = some (.func (.func 150) #[] #[.pointer (some ⟨fb, 0, none⟩)])
 asks : ∀ i : Nat, i < n → Calls Tryz.prog 150 #[.int .i64 i, .pointer (some ⟨fb, 0, none⟩)] W fun r w' => (∃ b, r = .returned (.bool b)) ∧ w' = W
def ssz (tr : Nat → Ex) (s : List Nat) : Nat := (s.map fun i => (tr i).size).sum
theorem ssz_snoc (tr : Nat → Ex) (s : List Nat) (i : Nat) : ssz tr (s ++ [i]) = ssz tr s + (tr i).size := by simp [ssz]
theorem ssz_len (tr : Nat → Ex) (s : List Nat) : s.length ≤ ssz tr s := by
 induction s with
 | nil => exact Nat.zero_le _
 | cons x s ih =>
  have := (tr x).size_pos
  unfold ssz at *
  simp only [List.length_cons, List.map_cons, List.sum_cons]; omega
def nats (s : List Nat) : List Int := s.map fun (i : Nat) => (i : Int)
theorem nats_snoc (s : List Nat) (i : Nat) : nats (s ++ [i]) = nats s ++ [(i : Int)] := by simp [nats]
theorem nats_len (s : List Nat) : (nats s).length = s.length := by simp [nats]
theorem own_in1 {w : World} {base : Nat} (x : Int) (hb : base ≤ w.heap.size) : Own ienc 1 (w.alloc (.cells #[.int .i64 x] 3)) base 3 (.slice (some ⟨w.heap.size, 0, none⟩) 1 1) [x] :=
 Own.made in_len w base _ [x] _ rfl hb (by simp [maxLen])
theorem step_app {P : Program} {t e : TypeId} {size bytes : Nat} (hT : ElOk P t e size bytes) {w : World} {ops : Array Oper} {o : Oper} {a : Act} {K : Act → World → Prop} {Q : Exit → Act → World → Prop} {E : Prop} (hgd : o.guard = none) (s x : Operand)
  (ho : o.op = .call { callee := .builtin .append, args := #[s, x], argTypes := #[t, t] }) (base : Nat)
  {α : Type} {enc : α → List Value} (henc : ∀ y, (enc y).length = size) (hone : OneCells enc) (l ys : List α) {v : Value} (hs : a.eval s = v) (hown : Own enc size w base e v l)
  {ad : Addr} {n c : Nat} (hx : a.eval x = .slice (some ad) n c) (hnl : ys.length = n) (hnews : ∀ j u, (ys.flatMap enc)[j]? = some u → w.cell? (ad.add j) = some u)
  (hsm : l.length + n ≤ 1099511627776) (hbase : base ≤ w.heap.size)
  (h : ∀ v' w', Own enc size w' base e v' (l ++ ys) → w.grownBy w' v.ownBlock → Below base w w' → (v'.ownBlock = v.ownBlock ∨ ∀ k, v'.ownBlock = some k → w.heap.size ≤ k) → K (a.put o.dst v') w') : if Region.wanted o (yielded ops a.tmps) = true then Oper.wp P o a w K Q else E := by
 obtain ⟨i, z, h1, h2, h3, h4, h5, h6, h7, h8⟩ := hT
 have hb : (l.length + n) * bytes ≤ 140737488355328 := Nat.le_trans (Nat.mul_le_mul hsm h8) (by decide)
 exact step_append_l2 (P := P) (ops := ops) (K := K) (Q := Q) (E := E) hgd s x t ho base e i z size bytes h1 h2 h3 h4 h5 h6 h7 enc henc v l ys hs hown ad n c hx hnl hnews (oneCells_flat hone ys) (by unfold maxLen; omega) hb hbase h
set_option maxHeartbeats 16000000 in
set_option maxRecDepth 100000 in
theorem ftops_seq {l : List Nd} {tr : Nat → Ex} (htr : TrOk l tr) (A : Option Addr) (n c lb ib fb : Nat) (hln : l.length = n) (h0n : 0 < n) (h60 : n ≤ 60) (hs : (tr (n - 1)).size = n) (m : Nat) (hm : 1 ≤ m) :
  SeqJ Fence.wide m Tryz.prog 170 #[.pointer (some ⟨lb, 0, none⟩), .pointer (some ⟨ib, 0, none⟩)] (fun i : Nat => #[Value.int .i64 (i : Int)]) (fun i => i < n) (TopsJ l A n c lb ib fb) := by
 intro y J W0 hJ hJn hY h0
 refine callsIn_wide.2 ?_
 have e0 : (#[Value.func (.yield y) #[] #[]] ++ #[.pointer (some ⟨lb, 0, none⟩), .pointer (some ⟨ib, 0, none⟩)] : Array Value) = #[.func (.yield y) #[] #[], .pointer (some ⟨lb, 0, none⟩), .pointer (some ⟨ib, 0, none⟩)] := rfl
 rw [e0]
 have hbox := (hJn _ h0).box
 have e1 : IntKind.i64.wrap ((n : Int) - 1) = ((n - 1 : Nat) : Int) := by rw [IntWalk.i64_in _ (by omega)]; omega
 have own0 := own_in1 (w := W0) ((n - 1 : Nat) : Int) (Nat.le_refl _)
 have HJ := Lib.hid hJ; have HJN := Lib.hid hJn; have HY := Lib.hid hY; have H0 := Lib.hid h0; have HTR := Lib.hid htr; have HS := Lib.hid hs; have HLN := Lib.hid hln
 clear hJ hJn hY h0 htr hs hln e0
 go_enter Tryz.func170, Tryz.ntmps170
 go_wp2_with fail
 go_step3
 go_wp2_with fail
 go_step3
 go_wp2_with fail
 go_loopg [4] n (fun k v wr => ∃ s : List Nat, (∀ i ∈ s, i < n) ∧ ssz tr s ≤ k ∧ k ≤ n ∧ Own ienc 1 wr W0.heap.size 3 v (nats s) ∧ J wr ∧ W0.heap.size ≤ wr.heap.size)
 case atStart =>
  exact ⟨[n - 1], (by intro i hi; rw [List.mem_singleton] at hi; omega), (by simp [ssz, HS.out]), Nat.le_refl _, own0, HJ.out _ _ H0.out ((MvB.refl _ _).alloc _), by simp⟩
 case round =>
  obtain ⟨s, hin, hsz, hkn, own, hj, hW⟩ := hrel
  clear own0 hbox e1
  rcases List.eq_nil_or_concat s with rfl | ⟨t, i, rfl⟩
  ·obtain ⟨Av, cv, rfl, -, -⟩ := own_shape_z own (n := 0) rfl
   have HJW := Lib.hid hj
   clear hin hsz own hj
   go_wp2_with fail
   simp only [Exit.noGoto]
   go_end0
   exact ⟨⟨_, rfl⟩, HJW.out, hW⟩
  ·rw [List.concat_eq_append] at *
   obtain ⟨q, hq⟩ : ∃ q, t.length = q := ⟨_, rfl⟩
   have hi : i < n := hin i (by simp)
   have hlen : (nats (t ++ [i])).length = q + 1 := by rw [nats_len]; simp [hq]
   rw [ssz_snoc] at hsz
   have hq60 : q < 100 := by have := ssz_len tr t; have := (tr i).size_pos; omega
   obtain ⟨Av, cv, rfl, hcv, -⟩ := own_shape_z own hlen
   have hat : (nats (t ++ [i]))[q]? = some (i : Int) := by rw [nats_snoc, List.getElem?_append_right (by rw [nats_len]; omega)]; simp [nats_len, hq]
   obtain ⟨b, off, rfl, hbb, f0⟩ := in_at (Own.rd in_len own) hat
   have own' : Own ienc 1 wr W0.heap.size 3 (.slice (some ⟨b, off, none⟩) q cv) (nats t) := by
    rw [nats_snoc] at own
    have := own_cut in_len own
    rwa [nats_len, hq] at this
   have e1 : IntKind.i64.wrap (((q + 1 : Nat) : Int) - 1) = (q : Int) := by rw [IntWalk.i64_in _ (by omega)]; omega
   have d1 : decide ((0 : Int) < ((q + 1 : Nat) : Int)) = true := by first | (simp; done) | (simp; omega)
   have d1' : decide (0 < q + 1) = true := by simp
   have k1 : (0 : Int) ≤ (q : Int) := by omega
   have k2 : (q : Int) < ((q + 1 : Nat) : Int) := by omega
   have k3 : (q : Int) ≤ (cv : Int) := by omega
   have HJW := Lib.hid hj; have HIN := Lib.hid hin; have HSZ := Lib.hid hsz; have HI := Lib.hid hi; have HQ := Lib.hid hq
   clear own hj hin hsz hi hlen hat hq
   go_upto_region 4 with (fail)
   refine (wpIn_wide (n := m)).1 ?_
   obtain ⟨fy, ty, ay, by_, hy, hR⟩ := HY.out i wr HI.out HJW.out hW
   have HRR := Lib.hid hR
   clear hR
   gi_wp2
   refine HRR.out.mono ?_
   rintro r W3 ⟨rfl, hj3, hk3⟩
   gi_wp2
   have own3 := own_keptB own' hk3
   have hW3 : W0.heap.size ≤ W3.heap.size := Nat.le_trans hW hk3.1
   obtain ⟨g1, g2, g3, g4, g5⟩ := HJN.out _ hj3
   have HASK := Lib.hid (g5 i HI.out)
   obtain ⟨x, hx⟩ : ∃ x, l[i]? = some x := ⟨_, List.getElem?_eq_getElem (by rw [HLN.out]; exact HI.out)⟩
   have hnode := HTR.out i x hx
   obtain ⟨bn, on, rfl, hbn, c0, c1, c2, c3, c4⟩ := nd_cells g3 hx
   have i1 : (0 : Int) ≤ (i : Int) := by omega
   have i2 : (i : Int) < (n : Int) := by have := HI.out; omega
   have HJ3 := Lib.hid hj3
   clear hj3 hk3 g3 g5 own' f0 HJW hy HRR e1 d1 d1' k1 k2 k3 hbb hW hx
   go_wp2_with (fail)
   go_at_call 150
   refine HASK.out.mono ?_
   rintro r w4 ⟨⟨bb, rfl⟩, rfl⟩
   cases bb
   ·go_wp2_with fail
    go_roundg (ssz tr t)
    case measure => have := HSZ.out; have := (tr i).size_pos; omega
    case rel => exact ⟨t, (fun z hz => HIN.out z (List.mem_append_left _ hz)), Nat.le_refl _, (by have := HSZ.out; omega), own3, HJ3.out, hW3⟩
   ·obtain ⟨xk, xn, xa, xb, xp⟩ := x
    simp only at c0 c1 c2 c3 c4
    rcases hnode with ⟨e, hk', ha0, hb0, hp⟩ | ⟨j, hj, e, hk', hn0, ha, hb0, hp⟩ | ⟨j, mm, hj, hm', e, hk', hn0, ha, hb0, hp⟩
    ·have g4' : prtN xk = 0 := by unfold prtN; have := hk'.1; simp only at this; rw [if_pos (by omega)]
     have hkk : 1 ≤ xk ∧ xk ≤ 19 := by have := hk'.1; simp only at this; omega
     have HP := Lib.hid (fun W => g4' ▸ nparts_any xk hkk W)
     clear hk' ha0 hb0 hp e g4' hkk
     go_wp2_with fail
     go_at_call 158
     refine (HP.out _).mono ?_
     rintro r w5 ⟨rfl, rfl⟩
     go_wp2_with fail
     go_roundg (ssz tr t)
     case measure => have := HSZ.out; have := (tr i).size_pos; omega
     case rel => exact ⟨t, (fun z hz => HIN.out z (List.mem_append_left _ hz)), Nat.le_refl _, (by have := HSZ.out; omega), own3, HJ3.out, hW3⟩
    ·obtain rfl : xa = j := ha
     have g4' : prtN xk = 1 := by unfold prtN; simp only at hk'; rw [if_neg (by omega), if_pos (by omega)]
     have hkk : 1 ≤ xk ∧ xk ≤ 19 := by simp only at hk'; omega
     have HP := Lib.hid (fun W => g4' ▸ nparts_any xk hkk W)
     have hje : (tr i).size = (tr j).size + 1 := by rw [e]; rfl
     have HE := Lib.hid hje; have HJI := Lib.hid hj
     clear hk' hn0 hb0 hp e g4' hkk hje hj
     go_wp2_with fail
     go_at_call 158
     refine (HP.out _).mono ?_
     rintro r w5 ⟨rfl, rfl⟩
     go_wp2_with (at_builtin; refine wpList_app in_el rfl (.tmp 46) (.tmp 52) rfl W0.heap.size in_len in_one (nats t) [(j : Int)] rfl (own3.alloc _) rfl rfl (flat_new _ _ _ _ (by simp) _ rfl) (by rw [nats_len, HQ.out]; omega) (by simp; omega) ?_; intro v7 w7 own7 hgr7 hb7 hl7)
     have hb8 : MvB W0.heap.size w4 w7 := ((MvB.refl _ _).alloc _).trans (MvB.app (own3.alloc _) (Nat.le_refl _) hgr7)
     go_roundg (ssz tr (t ++ [j]))
     case measure => rw [ssz_snoc]; have := HSZ.out; have := HE.out; omega
     case rel => exact ⟨t ++ [j], (fun z hz => by have h1 := HIN.out z; have h2 := HI.out; have h3 := HJI.out; rcases List.mem_append.1 hz with h | h; exact h1 (List.mem_append_left _ h); rw [List.mem_singleton] at h; omega), Nat.le_refl _, (by rw [ssz_snoc]; have := HSZ.out; have := HE.out; omega), by rw [nats_snoc]; exact own7, HJ.out _ _ HJ3.out hb8, Nat.le_trans hW3 hb8.size⟩
    ·obtain rfl : xa = mm := ha
     obtain rfl : xb = j := hb0
     have g4' : prtN xk = 2 := by unfold prtN; simp only at hk'; rw [if_neg (by omega), if_neg (by omega)]
     have hkk : 1 ≤ xk ∧ xk ≤ 19 := by simp only at hk'; omega
     have HP := Lib.hid (fun W => g4' ▸ nparts_any xk hkk W)
     have hje : (tr i).size = (tr mm).size + (tr j).size + 1 := by rw [e]; rfl
     have HE := Lib.hid hje; have HJI := Lib.hid hj; have HMJ := Lib.hid hm'
     have hlb0 := (HJN.out _ H0.out).lbs
     have hbn0 : bn < W0.heap.size := by
      obtain ⟨x', hx'⟩ : ∃ x, l[0]? = some x := ⟨_, List.getElem?_eq_getElem (by rw [HLN.out]; exact h0n)⟩
      obtain ⟨b', o', e', hb', _⟩ := nd_cells (HJN.out _ H0.out).nds hx'
      simp only [Option.some.injEq, Addr.mk.injEq] at e'
      rw [e'.1]; exact hb'
     have hR1 : ∀ X, MvB W0.heap.size w4 X → X.cell? ⟨lb, 0, none⟩ = some (.slice (some ⟨bn, on, none⟩) n c) := fun X h => (h.cell hW3 (p := ⟨lb, 0, none⟩) hlb0).trans g1
     have hR2 : ∀ X, MvB W0.heap.size w4 X → X.cell? ⟨bn, on + i * 5 + 2, none⟩ = some (.int .i64 mm) := fun X h => (h.cell hW3 (p := ⟨bn, on + i * 5 + 2, none⟩) hbn0).trans c2
     have hR3 : ∀ X, MvB W0.heap.size w4 X → X.cell? ⟨bn, on + i * 5 + 3, none⟩ = some (.int .i64 j) := fun X h => (h.cell hW3 (p := ⟨bn, on + i * 5 + 3, none⟩) hbn0).trans c3
     clear hk' hn0 hp e g4' hkk hje hj hm'
     go_wp2_with fail
     go_at_call 158
     refine (HP.out _).mono ?_
     rintro r w5 ⟨rfl, rfl⟩
     go_wp2_with fail
     refine hB (MvB W0.heap.size w4) (fun hHeld => ?_) (hS := (MvB.refl _ _).drew)
     refine hT 0 ?_; refine hT 1 ?_; refine hT 2 ?_; refine hT 3 ?_; refine hT 4 ?_; refine hT 5 ?_; refine hT 6 ?_; refine hT 7 ?_; refine hT 8 ?_; refine hT 9 ?_; refine hT 10 ?_
     refine hC 11 fun K hK => ?_; go_simp
     (refine hKp hK (fun hHeld => ?_) (((MvB.refl _ _).drew).alloc _); clear hK K)
     refine hC 12 fun K hK => ?_
     refine step_app in_el rfl (.tmp 56) (.tmp 67) rfl W0.heap.size in_len in_one (nats t) [(mm : Int), (j : Int)] rfl (own_drew own3 |>.alloc _) rfl rfl (flat_new _ _ _ _ (by simp) _ rfl) (by rw [nats_len, HQ.out]; omega) (by simp; omega) ?_
     intro v7 w7 own7 hgr7 hb7 hl7
     (refine hKp hK (fun hHeld => ?_) (hHeld.trans (MvB.app (own_drew own3 |>.alloc _) (Nat.le_refl _) hgr7)); clear hK K)
     refine hT 13 ?_
     refine hD ?_
     have hb8 : MvB W0.heap.size w4 w7 := hHeld
     go_wp2_with fail
     go_roundg (ssz tr (t ++ [mm] ++ [j]))
     case measure => rw [ssz_snoc, ssz_snoc]; have := HSZ.out; have := HE.out; omega
     case rel => exact ⟨t ++ [mm] ++ [j], (fun z hz => by have h1 := HIN.out z; have h2 := HI.out; have h3 := HJI.out; have h4 := HMJ.out; rcases List.mem_append.1 hz with h | h; rcases List.mem_append.1 h with h | h; exact h1 (List.mem_append_left _ h); rw [List.mem_singleton] at h; omega; rw [List.mem_singleton] at h; omega), Nat.le_refl _, (by rw [ssz_snoc, ssz_snoc]; have := HSZ.out; have := HE.out; omega), by rw [nats_snoc, nats_snoc, List.append_assoc]; exact own7, HJ.out _ _ HJ3.out hb8, Nat.le_trans hW3 hb8.size⟩
end Go.Proofs.YtnljihjhmgpcoaaGreat
