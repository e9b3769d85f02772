/- Lemmas and contracts for the statement, joined into one text: Back, SlideAll, PaneSize. The conditions of each stand at its head. -/
import Derived.Test.YtnljihjhmgpcoaaGreatJ4
import Derived.RangeFuncNested
import Derived.RangeFuncBound
import Derived.RangeFuncCalls
import Derived.RangeFuncLeaves
import Derived.Shelf.Abstract
import Derived.Shelf.RegionOpen
import Derived.OwnWalkIn
import Derived.TacticsInMore
import Derived.LoopNIn
import Derived.LoopIn
import Derived.Maps.AppendAt
import Derived.Test.YtnljihjhmgpcoaaGreatJ1
import Derived.Test.YtnljihjhmgpcoaaGreatJ3
namespace Go.Proofs.YtnljihjhmgpcoaaGreat
open Go.RowKit Go.Shelf
attribute [local go_sem] Oper.semAt_some
def upto {α : Type} (f : Nat → α) (k : Nat) : List α := (List.range k).map f
theorem upto_succ {α : Type} (f : Nat → α) (k : Nat) : upto f (k + 1) = upto f k ++ [f k] := by simp [upto, List.range_succ]
theorem upto_length {α : Type} (f : Nat → α) (k : Nat) : (upto f k).length = k := by simp [upto]
/-- What a round keeps: whatever lay below n₀, and the iterator's own box. -/
def KpB (n₀ Bs : Nat) (W W' : World) : Prop := Below n₀ W W' ∧ W'.heap[Bs]? = W.heap[Bs]?
theorem kpB_t {n₀ Bs : Nat} {A B C : World} (h : KpB n₀ Bs A B) (k : KpB n₀ Bs B C) : KpB n₀ Bs A C := ⟨h.1.trans k.1, k.2.trans h.2⟩
theorem kpB_b {n₀ Bs : Nat} {w : World} (hn : n₀ ≤ w.heap.size) (hB : Bs < w.heap.size) (W : World) (l : Nat) (o o' : Obj) (hl : w.heap.size ≤ l) (h : W.heap[l]? = some o) (hc : o.isCells = false) (hw : o.isWalk = false) : KpB n₀ Bs W (W.putObj l o') :=
 ⟨belowK_b hn W l o o' hl h hc hw, World.putObj_heap_other (by omega)⟩
theorem kpB_refl (n₀ Bs : Nat) (W : World) : KpB n₀ Bs W W := ⟨Below.refl _ _, rfl⟩
/-- What comes in round j: the index and the element. -/
def backAt (zs : List (Int × Int)) (j : Nat) : Nat × (Int × Int) := (zs.length - 1 - j, zs[zs.length - 1 - j]?.getD (0, 0))
theorem backAt_all (zs : List (Int × Int)) : (upto (backAt zs) zs.length).map (·.2) = zs.reverse := by
 apply List.ext_getElem
 ·simp [upto]
 ·intro i h1 h2
  simp [upto] at h1
  simp [upto, backAt, List.getElem_reverse]
  rw [List.getElem?_eq_getElem (by omega)]
  rfl
set_option maxRecDepth 100000 in
set_option maxHeartbeats 2000000 in
theorem back1_in (F : Fence) (n : Nat) (h1 : F.fn 133) (hro : F.round = none) (hn : 1 ≤ n) (l Bs n₀ cap : Nat) (A : Option Addr) (zs : List (Int × Int)) (hreach : zs.length ≤ 1099511627776) (J Jx : List (Nat × (Int × Int)) → World → Prop)
  (hY : ∀ pre x W, J pre W → pre.length < zs.length → YieldAt F (n - 1) Tryz.prog l #[.int .i64 (x.1 : Int), .agg #[.int .i64 x.2.1, .int .i64 x.2.2]] W fun e W' =>
   (e = .returned (.bool true) ∧ J (pre ++ [x]) W' ∧ KpB n₀ Bs W W') ∨ (e = .returned (.bool false) ∧ Jx (pre ++ [x]) W'))
  (W : World) (hBs : W.cell? ⟨Bs, 0, none⟩ = some (.slice A zs.length cap)) (hc : Rd senc 2 W n₀ A zs) (h0 : J [] W) :
  CallsIn F n Tryz.prog 133 #[.func (.yield l) #[] #[], .pointer (some ⟨Bs, 0, none⟩)] W fun e W' => (∃ v, e = .returned v) ∧
   ((∃ ys, ys = upto (backAt zs) zs.length ∧ J ys W') ∨ (∃ pre, (∃ k, k ≤ zs.length ∧ pre = upto (backAt zs) k) ∧ Jx pre W')) := by
 refine callsIn_of_wp Tryz.func133 rfl h1 ?_ hro
 simp only [Tryz.ntmps133, List.size_toArray, List.length_cons, List.length_nil, Nat.reduceAdd, Nat.reduceSub, Array.replicate_succ, Array.replicate_zero, List.push_toArray, List.append_toArray, List.nil_append, List.cons_append]
 obtain ⟨len, hlen⟩ : ∃ len, len = zs.length := ⟨_, rfl⟩
 rw [← hlen] at hreach hY hBs ⊢
 have HL := Lib.hid hlen
 clear hlen
 gi_wp2
 gi_loopw [3] (fun i wr => ∃ m : Nat, m ≤ len ∧ i = .int .i64 ((m : Int) - 1) ∧ J (upto (backAt zs) (len - m)) wr ∧ KpB n₀ Bs W wr)
  (fun i _ => (intOf i + 1).toNat)
 case atStart => exact ⟨len, Nat.le_refl _, rfl, by simpa [upto] using h0, kpB_refl _ _ _⟩
 case round =>
  obtain ⟨m, hm, rfl, hJs, hnx⟩ := hrel
  have hBw := (World.cell?_of_block (a := ⟨Bs, 0, none⟩) hnx.2).trans hBs
  cases m with
  | zero =>
   have e0 : ((0 : Nat) : Int) - 1 = -1 := rfl
   rw [e0]
   gi_wp2
   go_end0
   exact ⟨⟨_, rfl⟩, .inl ⟨_, rfl, by simpa using hJs⟩⟩
  | succ p =>
   have e1 : ((p + 1 : Nat) : Int) - 1 = (p : Int) := by omega
   rw [e1]
   have hp : p < zs.length := by rw [← HL.out]; omega
   have hx := List.getElem?_eq_getElem hp
   obtain ⟨x, hxe⟩ : ∃ x, x = zs[p] := ⟨_, rfl⟩
   rw [← hxe] at hx
   have hk : backAt zs (len - (p + 1)) = (p, x) := by
    unfold backAt
    rw [← HL.out, show len - 1 - (len - (p + 1)) = p from by omega, hx]; rfl
   have hsu := upto_succ (backAt zs) (len - (p + 1))
   rw [hk, show len - (p + 1) + 1 = len - p from by omega] at hsu
   have hul := upto_length (backAt zs) (len - (p + 1))
   obtain ⟨b, off, rfl, hbB, c1, c2⟩ := span_cells hc hx
   have d1 := (hnx.1.cell (p := ⟨b, off + p * 2, none⟩) hbB).trans c1
   have d2 := (hnx.1.cell (p := ⟨b, off + p * 2 + 1, none⟩) hbB).trans c2
   obtain ⟨x1, x2⟩ := x
   have H := Lib.hid hsu
   obtain ⟨fn, tmps, assign, body, hy, hR⟩ := hY _ (p, (x1, x2)) wr hJs (by rw [hul]; omega)
   dsimp only at hy d1 d2
   clear hsu hk hx hxe c1 c2 hul e1 hBs hc
   gi_wp2
   refine hR.mono ?_
   rintro e W3 (⟨rfl, hJ3, hk3⟩ | ⟨rfl, hJx3⟩)
   ·gi_wp2
    go_roundw
    case rel => exact ⟨p, by omega, by go_num, by rw [H.out]; exact hJ3, kpB_t hnx hk3⟩
    case measure => simp [intOf]
   ·gi_wp2
    refine bodyPost_ret (results_none rfl _ _ _) rfl ?_
    exact ⟨⟨_, rfl⟩, .inr ⟨_, ⟨len - p, by omega, rfl⟩, by rw [H.out]; exact hJx3⟩⟩
set_option maxHeartbeats 1000000 in
/-- slices.Backward(s): the slice value is boxed; the function value captures the box. -/
theorem back_in (F : Fence) (n : Nat) (h : F.fn 106) (hro : F.round = none) (a : Option Addr) (len cap : Nat) (w : World) :
  CallsIn F n Tryz.prog 106 #[.slice a len cap] w fun e w' => e = .returned (.func (.func 133) #[] #[.pointer (some ⟨w.heap.size, 0, none⟩)]) ∧ w' = w.alloc (.cells #[.slice a len cap] 108) := by
 refine callsIn_of_wp Tryz.func106 rfl h ?_ hro
 simp only [Tryz.ntmps106, List.size_toArray, List.length_cons, List.length_nil, Nat.reduceAdd, Nat.reduceSub, Array.replicate_succ, Array.replicate_zero, List.push_toArray, List.append_toArray, List.nil_append, List.cons_append]
 gi_wp2
 go_ret
 exact ⟨rfl, rfl⟩
theorem back_stops (F : Fence) (n : Nat) (h1 : F.fn 133) (hro : F.round = none) (hn : 1 ≤ n) (Bs n₀ cap : Nat) (A : Option Addr) (zs : List (Int × Int)) (hreach : zs.length ≤ 1099511627776) (w : World) (hBs : Bs < w.heap.size) (hn₀ : n₀ ≤ w.heap.size)
  (hc : w.cell? ⟨Bs, 0, none⟩ = some (.slice A zs.length cap)) (hI : Rd senc 2 w n₀ A zs) :
  SeqStopsK F n Tryz.prog 133 #[.pointer (some ⟨Bs, 0, none⟩)] (fun x : Nat × (Int × Int) => #[Value.int .i64 (x.1 : Int), .agg #[.int .i64 x.2.1, .int .i64 x.2.2]]) (KpB n₀ Bs) (fun ys => ys = upto (backAt zs) zs.length)
   (fun pre => ∃ k, k ≤ zs.length ∧ pre = upto (backAt zs) k) zs.length w := fun l J Jx W hW _ _ hY h0 => by
 have hc' := (hW.cell (p := ⟨Bs, 0, none⟩) hBs).trans hc
 exact back1_in F n h1 hro hn l Bs n₀ cap A zs hreach J Jx hY W hc' (hI.below (hW.mono hn₀)) h0
/-- A loop's variable that is boxed: the temporaries behind the assignment, and the box. -/
def AxS (a : Act) (q p1 p2 B0 t : Nat) (x : Nat × (Int × Int)) (a' : Act) (W : World) : Prop := ∃ Bx, B0 ≤ Bx ∧ W.heap[Bx]? = some (.cells #[.int .i64 x.2.1, .int .i64 x.2.2] t (0, 0)) ∧
 a' = { tmps := ((a.tmps.setIfInBounds p1 (.int .i64 (x.1 : Int))).setIfInBounds p2 (.agg #[.int .i64 x.2.1, .int .i64 x.2.2])).setIfInBounds q (.pointer (some ⟨Bx, 0, none⟩)), defers := [] }
theorem axS_own (a : Act) (q p1 p2 B0 t B : Nat) (x : Nat × (Int × Int)) (a' : Act) : OwnFrom B (fun (_ : Unit) W => AxS a q p1 p2 B0 t x a' W) := fun _ X Y row hs hg hr => by
 obtain ⟨Bx, h1, h2, h3⟩ := hs
 refine ⟨Bx, h1, (hg.block Bx (Array.getElem?_eq_some_iff.1 h2).1 (fun e => ?_)).trans h2, h3⟩
 obtain ⟨_, o, ho, hc⟩ := hr Bx e.symm
 rw [h2] at ho; cases ho; cases hc
theorem wpIn_rangeFunc_spans {F : Fence} {n : Nat} {P : Program} {g : Operand} {ps : Array Tmp} {assign body : Code} {Q : Exit → Act → World → Prop} {a : Act} {w : World} (q p1 p2 B0 t : Nat)
  (hro : F.round = none) (h1 : 1 ≤ n) {gf : Nat} {lb : Array Value} (hg : a.eval g = .func (.func gf) #[] lb) (hFg : F.fn gf) (eg : ∀ args w, (callFunc gf args).run P w = .ok (.enter gf args) w)
  {encs : Nat × (Int × Int) → Array Value} {Kp : World → World → Prop} {S Sp : List (Nat × (Int × Int)) → Prop} {N : Nat} (hseq : SeqStopsK F (n - 1) P gf lb encs Kp S Sp N w)
  (hKt : ∀ {A B C : World}, Kp A B → Kp B C → Kp A C) (hKb : ∀ (W : World) (l : Nat) (o o' : Obj), w.heap.size ≤ l → W.heap[l]? = some o → o.isCells = false → o.isWalk = false → Kp W (W.putObj l o')) (hps : ∀ x, (encs x).size = ps.size)
  (I : List (Nat × (Int × Int)) → World → Prop) (hI : OwnFrom w.heap.size I) (h0 : I [] w)
  (hassign : ∀ (l : Nat) (pre : List (Nat × (Int × Int))) (x : Nat × (Int × Int)) (W : World) (K : Act → World → Prop), I pre W → (∀ a' W', KeepsFrom w.heap.size W W' → Kp W W' → I pre W' → AxS a q p1 p2 B0 t x a' W' → K a' W') →
   assign.wpIn (F.inRound l) (n - 1 - 1) P (Exit.then K (fun _ _ _ => False)) { tmps := (ps.zip (encs x)).foldl (fun t (p, v) => t.setIfInBounds p v) a.tmps, defers := [] } W)
  (hbody : ∀ (l : Nat) (pre : List (Nat × (Int × Int))) (x : Nat × (Int × Int)) (a' : Act) (W : World), I pre W → AxS a q p1 p2 B0 t x a' W → pre.length < N → body.wpIn (F.inRound l) (n - 1 - 1) P (ownPostG w.heap.size Kp I (fun _ _ _ => False) (pre ++ [x]) W) a' W)
  (hdone : ∀ (D : Nat) (xs : List (Nat × (Int × Int))) (W : World), w.heap.size ≤ D → S xs → I xs W → W.heap[D]? = some (.deferred (some [])) → Q .normal { a with defers := { target := .collected D, args := #[] } :: a.defers } W) :
  (Code.rangeFunc g ps assign body).wpIn F n P Q a w :=
 wpIn_rangeFunc_ownH hro h1 hg hFg eg hseq hKt hKb (Below.refl _ _) hps I (fun _ _ _ => False) hI (fun _ _ _ _ _ hs _ _ => hs) h0 (AxS a q p1 p2 B0 t) (axS_own a q p1 p2 B0 t _) hassign
  (fun l pre x a' W _ _ hi hx hl => hbody l pre x a' W hi hx hl) hdone (fun _ _ _ _ _ _ h _ => h.elim)
theorem wpListIn_append_elem {F : Fence} {n : Nat} {P : Program} {w : World} {ops : Array Oper} {rest : List Oper} {o : Oper} {a : Act} {Q : Exit → Act → World → Prop} (hgd : o.guard = none) (s x : Operand) (t : TypeId)
  (ho : o.op = .call { callee := .builtin .append, args := #[s, x], argTypes := #[t, t] })
  (base : Nat) (e : TypeId) (i : TypeInfo) (z : Value) (size bytes : Nat) (ht : P.underlying t = some (.slice e)) (hi : P.info? e = some i) (hz : i.zero = some z)
  (hsize : i.size = size) (hby : i.bytes = bytes) (hzs : z.cells.size = size) (hsz : 0 < size)
  {α : Type} (enc : α → List Value) (henc : ∀ y, (enc y).length = size) (v : Value) (l : List α) (y : α) (hs : a.eval s = v) (hown : Own enc size w base e v l)
  (ad : Addr) (c : Nat) (hx : a.eval x = .slice (some ad) 1 c) (hnews : ∀ j u, (enc y)[j]? = some u → w.cell? (ad.add j) = some u) (h1 : ∀ u ∈ enc y, u.oneCell' = true)
  (h63 : l.length + 1 ≤ maxLen) (hbytes : (l.length + 1) * bytes ≤ 140737488355328) (hbase : base ≤ w.heap.size)
  (h : ∀ v' w', Own enc size w' base e v' (l ++ [y]) → w.grownBy w' v.ownBlock → Below base w w' → wpListIn F n P ops Q rest (a.put o.dst v') w') : wpListIn F n P ops Q (o :: rest) a w :=
 wpListIn_append_own w hgd s x t ho base e i z size bytes ht hi hz hsize hby hzs hsz v l.length (l.flatMap enc) hs hown ad 1 c (enc y) hx (by rw [henc]; omega) hnews h1 h63 hbytes hbase
  fun v' w' h2 h3 _ => h v' w' (by unfold Own; simpa using h2) h3 (below_of_grown h3 (fun k hk => (World.ownsRow.lt hown k hk).1) hbase)
/-- The cells of a span that has just been laid. -/
theorem span_new (w : World) (x y : Int) (t : TypeId) (g : Nat) (hg : g = w.heap.size) : ∀ j u, (senc (x, y))[j]? = some u → (w.alloc (.cells #[.int .i64 x, .int .i64 y] t)).cell? ((⟨g, 0, none⟩ : Addr).add j) = some u := by
 subst hg
 intro j u hj
 match j, hj with
 | 0, hj => simp [senc] at hj; subst hj; simp [Addr.add]
 | 1, hj => simp [senc] at hj; subst hj; simp [Addr.add]
theorem span_one (x : Int × Int) : ∀ u ∈ senc x, u.oneCell' = true := by
 intro u hu; simp [senc] at hu; rcases hu with rfl | rfl <;> rfl
end Go.Proofs.YtnljihjhmgpcoaaGreat
namespace Go.Proofs.YtnljihjhmgpcoaaGreat
open Go.RowKit Go.Shelf Go.WideShapes Go.ChangeShapes Go.ChangeAt
attribute [local go_sem] Oper.semAt_some
set_option maxHeartbeats 4000000 in
set_option maxRecDepth 100000 in
theorem sall_ok (t size every : Int) (w : World) (hr : sright size every) (ht1 : -1099511627776 ≤ t) (ht2 : t ≤ 1099511627776) :
  Calls Tryz.prog 76 #[.int .i64 t, .int .i64 size, .int .i64 every] w fun e w' => ∃ v, e = .returned (.tuple #[v, .int .i64 0]) ∧ Own senc 2 w' w.heap.size 59 v (swins t size every) ∧ Below w.heap.size w w' := by
 obtain ⟨i0, hi0, hz0, hz1, hz2⟩ := info_parts span_info
 obtain ⟨k1, k2, k3, k4⟩ := scount_facts (t := t) hr
 have hsw := Lib.hid (swins_eq (t := t) hr)
 obtain ⟨s1, s2, s3, s4, s5⟩ := hr
 obtain ⟨q1, q2, q3, q4, q5⟩ := floor_facts s2 ht1 ht2
 have hT : tspan t every = (t / every * every, t / every * every + every) := by
  unfold tspan; rw [if_pos (tchk_zero.2 ⟨s2, by omega, ht1, ht2⟩)]
 have hC : tchk t every = 0 := tchk_zero.2 ⟨s2, by omega, ht1, ht2⟩
 obtain ⟨K, hK⟩ : ∃ K, K = scount t size every := ⟨_, rfl⟩
 rw [← hK] at k1 k2 k3 k4 hsw
 obtain ⟨S, hS⟩ : ∃ S, S = t / every * every := ⟨_, rfl⟩
 rw [← hS] at q1 q2 q3 k3 k4 hT
 have hS' := Lib.hid hS; have hK' := Lib.hid hK
 have hT1 : (tspan t every).1 = S := by rw [hT]
 have hT2 : (tspan t every).2 = S + every := by rw [hT]
 clear hS hK q3 q4 q5 hT
 have hL : Loc w [] := trivial
 refine (callsIn_wide (n := 9)).1 ?_
 refine callsIn_of_wp_marks Tryz.func76 rfl trivial ?_ rfl
 simp only [Tryz.ntmps76, List.size_toArray, List.length_cons, List.length_nil, Nat.reduceAdd, Nat.reduceSub, Array.replicate_succ, Array.replicate_zero, List.push_toArray, List.append_toArray, List.nil_append, List.cons_append]
 gi_wp2_with (refine ⟨trivial, ?_⟩; gi_at_call 36; refine (callsIn_wide.2 (of_any _ _ _)).mono ?_; rintro e w1 ⟨rfl, hb1⟩; replace hL := kp hb1; (repeat rw [World.size_alloc] at hL); have hF := hL; (repeat unfold Loc at hF))
 all_goals
  have hB0 : Below w.heap.size w (w1.alloc (.cells #[.int .i64 S, .int .i64 (S + every)] 59)) := bel
  clear hL hF hb1
  gi_loopw [10, 11] (fun v s wr => ∃ k : Nat, k ≤ K ∧ s = .int .i64 (S - (k : Int) * every) ∧ Own senc 2 wr w.heap.size 59 v (sback t size every k) ∧ Below w.heap.size w wr) (fun _ s _ => (intOf s + size - t).toNat)
  case atStart => exact ⟨0, by omega, by simp, Own.nil _ _ _, hB0⟩
  case round =>
   obtain ⟨k, hk, rfl, hown, hb⟩ := hrel
   have m1 : (k : Int) * every ≤ 16 * every := Int.mul_le_mul_of_nonneg_right (by omega) (by omega)
   have m2 : 0 ≤ (k : Int) * every := Int.mul_nonneg (by omega) (by omega)
   have m3 : S - ((k + 1 : Nat) : Int) * every = S - (k : Int) * every - every := by
    rw [show ((k + 1 : Nat) : Int) = (k : Int) + 1 from by omega, Int.add_mul]; omega
   have M3 := Lib.hid m3
   have hsb := Lib.hid (sback_succ t size every k)
   have hsl := Lib.hid (sback_len t size every k)
   have hkk := k3 k
   obtain ⟨D, hD⟩ : ∃ D, D = S - (k : Int) * every := ⟨_, rfl⟩
   have hD' := Lib.hid hD
   have d1 : D ≤ 1099511627776 := by omega
   have d2 : -1200000000000 ≤ D := by omega
   rw [← hD] at hkk ⊢
   by_cases hlt : k < K
   ·have h5 := hkk hlt
    clear m1 m2 m3 hD hkk k3
    gi_wp2_with (first
     | (gi_at_builtin; refine wpListIn_append_elem rfl _ _ 108 rfl w.heap.size 59 i0 (.agg #[.int .i64 0, .int .i64 0]) 2 16 Tryz.underlying108 hi0 hz0 hz1 hz2 rfl (by decide) senc (fun _ => rfl) _ _ (D, D + size) rfl (hown.alloc _) ⟨wr.heap.size, 0, none⟩ 1 rfl (span_new _ _ _ _ _ rfl) (span_one _) (by rw [hsl.out]; unfold maxLen; omega) (by rw [hsl.out]; omega) (by have := hb.size; simp; omega) ?_; intro v' w1 hown' hgrow hbel))
    have hb' := (hb.alloc hb.size _).trans hbel
    clear hown hgrow hbel hb
    gi_wp2
    go_roundw
    case rel => exact ⟨k + 1, by omega, by rw [M3.out, ← hD'.out], by rw [hsb.out, ← hS'.out, ← hD'.out]; exact hown', hb'⟩
    case measure => simp [intOf]; omega
   ·obtain rfl : k = K := by omega
    clear hlt hkk hk
    rw [← hD] at k4
    clear m1 m2 m3 hD k3
    obtain ⟨A, c, rfl, hlc, hcm, hfr⟩ := hown.form
    gi_wp2_with (first
     | (refine ⟨trivial, ?_⟩; gi_at_call 106; refine (back_in Fence.wide _ trivial rfl _ _ _ _).mono ?_; rintro e w' ⟨rfl, rfl⟩))
    obtain ⟨H, hH⟩ : ∃ H, H = wr.heap.size := ⟨_, rfl⟩
    obtain ⟨zs, hzs⟩ : ∃ zs, zs = sback t size every k := ⟨_, rfl⟩
    rw [← hzs] at hown hlc hsl hsw ⊢
    have hrd := Own.rd (enc := senc) (sz := 2) (fun _ => rfl) hown
    rw [← hH] at hrd ⊢
    have bO := (Boxed.new wr 108 (.slice none 0 0)).alloc (.cells #[.slice A zs.length c] 108)
    have bB := Boxed.new (wr.alloc (.cells #[.slice none 0 0] 108)) 108 (.slice A zs.length c)
    rw [World.size_alloc, ← hH] at bB
    rw [← hH] at bO
    have hB1 : Below H wr ((wr.alloc (.cells #[.slice none 0 0] 108)).alloc (.cells #[.slice A zs.length c] 108)) := by
     rw [hH]; exact ((Below.refl _ wr).alloc (Nat.le_refl _) _).alloc (by simp) _
    have hsz : ((wr.alloc (.cells #[.slice none 0 0] 108)).alloc (.cells #[.slice A zs.length c] 108)).heap.size = H + 2 := by simp [hH]
    obtain ⟨W0, hW0⟩ : ∃ W0, (wr.alloc (.cells #[.slice none 0 0] 108)).alloc (.cells #[.slice A zs.length c] 108) = W0 := ⟨_, rfl⟩
    rw [hW0] at bO bB hB1 hsz ⊢
    have hlen : zs.length ≤ 16 := by rw [hsl.out]; exact k2
    have hwH : w.heap.size ≤ H := by rw [hH]; exact hb.size
    have hH' := Lib.hid hH
    clear hW0 hH hzs
    refine wpIn_rangeFunc_spans 14 63 64 (H + 2) 59 rfl (by omega) (gf := 133) (lb := #[.pointer (some ⟨H + 1, 0, none⟩)]) rfl trivial (enters_of Tryz.func133 (by kernel_rfl) rfl)
     (back_stops Fence.wide _ trivial rfl (by omega) (H + 1) H c A zs (by omega) W0 (by omega) (by omega) bB.cell (hrd.below hB1)) kpB_t (kpB_b (by omega) (by omega)) (fun _ => rfl)
     (fun pre W => (∃ v, Boxed W H 108 v ∧ W.ownsRow H 59 2 v (pre.map (·.2)).length ((pre.map (·.2)).flatMap senc) ∧ True) ∧ Boxed W (H + 1) 108 (.slice A zs.length c) ∧ Below H wr W)
     (OwnFrom.and (Go.Own.from (holdsRow_own H H 108 59 2 (fun pre : List (Nat × (Int × Int)) => (pre.map (·.2)).length) (fun pre => (pre.map (·.2)).flatMap senc) (fun _ _ => True)) _) (OwnFrom.and (Go.Own.from (boxed_own _ _ _) _) (ownFrom_below (by rw [hH'.out]; exact Nat.le_refl _) (by omega))))
     ⟨⟨_, bO, World.ownsRow_nil _ _ _ _, trivial⟩, bB, hB1⟩ ?assign ?body ?done
    case assign =>
     rintro l pre x W K ⟨⟨v, bv, hrow, -⟩, bA, hBW⟩ hK
     have hW : H ≤ W.heap.size := by rw [hH'.out]; exact hBW.size
     gi_wp2
     exact hK _ _ ((KeepsOthers.alloc _ _).from _) ⟨(Below.refl _ W).alloc (by omega) _, Below.heap_alloc W _ (H + 1) bA.lt⟩ ⟨⟨v, bv.alloc _, hrow.alloc _, trivial⟩, bA.alloc _, hBW.alloc (by omega) _⟩ ⟨W.heap.size, by have := bA.lt; omega, World.alloc_heap_new W _, rfl⟩
    case body =>
     rintro l pre x a' W ⟨⟨v, bv, hrow, -⟩, bA, hBW⟩ ⟨Bx, hBx, hx, rfl⟩ hpre
     have hc := bv.cell
     have hx1 : W.cell? ⟨Bx, 0, none⟩ = some (.int .i64 x.2.1) := by simp [World.cell?, hx]
     have hx2 : W.cell? ⟨Bx, 1, none⟩ = some (.int .i64 x.2.2) := by simp [World.cell?, hx]
     have hxl := (Array.getElem?_eq_some_iff.1 hx).1
     have hlp : (pre.map (·.2)).length ≤ 16 := by simp; omega
     have hWs : H ≤ W.heap.size := by rw [hH'.out]; exact hBW.size
     obtain ⟨x0, x1, x2⟩ := x
     dsimp only at hx hx1 hx2
     clear hx
     gi_wp2_with (first
      | (gi_at_builtin; refine wpListIn_append_own _ rfl _ _ 108 rfl H 59 i0 (.agg #[.int .i64 0, .int .i64 0]) 2 16 Tryz.underlying108 hi0 hz0 hz1 hz2 rfl (by decide) _ _ _ rfl (hrow.alloc _) ⟨W.heap.size, 0, none⟩ 1 1 (senc (x1, x2)) rfl rfl (span_new _ _ _ _ _ rfl) (span_one _) (by unfold maxLen; omega) (by omega) (by simp; omega) ?_; intro v' w1 hown' hgrow _; obtain ⟨g', cap', rfl⟩ := ownsRow_succ hown'; obtain ⟨hv1, hv2, hr2, hk2, hb2⟩ := bv.appended (by decide) hrow hWs (Nat.le_refl _) hown' hgrow; have hc1 := hv1.cell; have hf1 := hv1.frozen; have bA1 := ((bA.alloc _).kept hgrow (bA.not_row (by decide) hrow)).other (B' := H) (by omega) (.slice (some ⟨g', 0, none⟩) ((List.map (fun x => x.snd) pre).length + 1) cap')))
     simp only [List.length_map] at hv2 hr2 hk2 hb2 bA1
     exact ⟨hk2.from _, ⟨hb2, bA1.trans bA.symm⟩, ⟨_, hv2, by simpa using hr2⟩, bA1, hBW.trans hb2⟩
    case done =>
     rintro E ys W hD rfl ⟨⟨v, bv, hrow, -⟩, bA, hBW⟩ hK
     have hc := bv.cell
     rw [backAt_all, ← hsw.out] at hrow
     clear bA hown hrd bO bB
     gi_wp2
     have hwE : w.heap.size ≤ E := by omega
     have hBw : Below w.heap.size w W := below_then hb (by rw [← hH'.out]; exact hBW)
     have hown : Own senc 2 (W.putObj E (.deferred none)) H 59 v (swins t size every) := ownsRow_putObj hrow _ hK rfl
     refine ⟨by simp, .inl ⟨_, _, rfl, run_takeDeferred hK, ?_⟩⟩
     refine ⟨.tuple #[v, .int .i64 0], by simp [results, Tryz.f76, go_sem], ?_⟩
     exact ⟨v, rfl, hown.mono hwH, hBw.trans (belowK_b (w := w) (Nat.le_refl _) W E _ _ hwE hK rfl rfl)⟩
set_option maxHeartbeats 2000000 in
/-- slide.All, at every time and sizes: the reference's list and error. -/
theorem sall_any (t size every : Int) (w0 : (Lit.int .i64 size).wf = true) (w1 : (Lit.int .i64 every).wf = true) (w : World) :
  Calls Tryz.prog 76 #[.int .i64 t, .int .i64 size, .int .i64 every] w fun e w' => ∃ v, e = .returned (.tuple #[v, .int .i64 (rall t size every).2]) ∧ Own senc 2 w' w.heap.size 59 v (rall t size every).1 ∧ Below w.heap.size w w' := by
 obtain ⟨b1, b2⟩ := bounds_i64 w0
 obtain ⟨b3, b4⟩ := bounds_i64 w1
 clear w0 w1
 by_cases hr : sright size every
 ·by_cases ht : t < -1099511627776 ∨ 1099511627776 < t
  ·have h3 : rall t size every = ([], 16) := by unfold rall; rw [if_neg (by simp [hr]), if_pos ht]
   obtain ⟨s1, s2, s3, s4, s5⟩ := hr
   have h2 : tchk t every = 16 := by unfold tchk; rw [if_neg (by omega), if_pos ht]
   have H := Lib.hid h3
   clear ht h3
   have hL : Loc w [] := trivial
   go_enter Tryz.func76, Tryz.ntmps76
   go_wp2_with (go_at_call 36; refine (of_any _ _ _).mono ?_; rintro e w' ⟨rfl, hb1⟩; replace hL := kp hb1; (repeat rw [World.size_alloc] at hL); have hF := hL; (repeat unfold Loc at hF))
   all_goals go_ret2
   all_goals exact ⟨.slice none 0 0, by simp [H.out], by rw [H.out]; exact Own.nil _ _ _, bel⟩
  ·have h3 : rall t size every = (swins t size every, 0) := by unfold rall; rw [if_neg (by simp [hr]), if_neg ht]
   rw [h3]
   exact sall_ok t size every w hr (by omega) (by omega)
 ·have h3 : rall t size every = ([], 2) := by unfold rall; rw [if_pos hr]
  have H := Lib.hid h3
  have hr' := Lib.hid hr
  clear h3 hr
  go_enter Tryz.func76, Tryz.ntmps76
  go_wp2_with fail
  all_goals first
   | (exfalso; have hr := hr'.out; unfold sright at hr; grind)
   | (go_ret2; exact ⟨.slice none 0 0, by simp [H.out], by rw [H.out]; exact Own.nil _ _ _, Below.refl _ _⟩)
end Go.Proofs.YtnljihjhmgpcoaaGreat
namespace Go.Proofs.YtnljihjhmgpcoaaGreat
open Go.RowKit
/-- Windows that have to be sliding ones. -/
def slchk (k s e : Int) : Int := if ¬ wok k s e then 8 else if k = 2 then 0 else 2
set_option maxHeartbeats 4000000 in
theorem sliding_any (k s e : Int) (we : (Lit.int .i64 e).wf = true) (w : World) :
  Calls Tryz.prog 34 #[.agg #[.int .u8 k, .int .i64 s, .int .i64 e]] w fun r w' => r = .returned (.int .i64 (slchk k s e)) ∧ Below w.heap.size w w' := by
 have hw := fun W => window_any k s e we W
 unfold wchk at hw
 obtain ⟨R, hR⟩ : ∃ R, R = slchk k s e := ⟨_, rfl⟩
 rw [← hR]
 unfold slchk at hR
 by_cases h : wok k s e
 ·rw [if_pos h] at hw
  rw [if_neg (by simp [h])] at hR
  have HW := Lib.hid hw; have HR := Lib.hid hR
  have hL : Loc w [] := trivial
  clear hw hR h
  by_cases hk : k = 2
  ·subst hk
   go_enter Tryz.func34, Tryz.ntmps34
   go_wp2_with fail
   go_at_call 53
   refine (HW.out _).mono ?_
   rintro r w2 ⟨rfl, hb2⟩
   replace hL := kp hb2; (repeat rw [World.size_alloc] at hL); have hF := hL; (repeat unfold Loc at hF)
   go_wp2
   go_ret
   exact ⟨ret_i64 (by rw [HR.out]; simp), blr⟩
  ·have d1 : (k != 2) = true := by simp [hk]
   go_enter Tryz.func34, Tryz.ntmps34
   go_wp2_with fail
   go_at_call 53
   refine (HW.out _).mono ?_
   rintro r w2 ⟨rfl, hb2⟩
   replace hL := kp hb2; (repeat rw [World.size_alloc] at hL); have hF := hL; (repeat unfold Loc at hF)
   go_wp2
   go_ret
   exact ⟨ret_i64 (by rw [HR.out, if_neg hk]), blr⟩
 ·rw [if_neg h] at hw
  rw [if_pos h] at hR
  subst hR
  have HW := Lib.hid hw
  have hL : Loc w [] := trivial
  clear hw h
  go_enter Tryz.func34, Tryz.ntmps34
  go_wp2_with fail
  go_at_call 53
  refine (HW.out _).mono ?_
  rintro r w2 ⟨rfl, hb2⟩
  replace hL := kp hb2; (repeat rw [World.size_alloc] at hL); have hF := hL; (repeat unfold Loc at hF)
  go_wp2
  go_ret
  exact ⟨rfl, blr⟩
set_option maxHeartbeats 4000000 in
theorem asked_any (k s e : Int) (we : (Lit.int .i64 e).wf = true) (w : World) :
  Calls Tryz.prog 15 #[.agg #[.int .u8 k, .int .i64 s, .int .i64 e]] w fun r w' => r = .returned (.int .i64 (slchk k s e)) ∧ Below w.heap.size w w' := by
 have hw := fun W => rwindow_any k s e we W
 unfold wchk at hw
 obtain ⟨R, hR⟩ : ∃ R, R = slchk k s e := ⟨_, rfl⟩
 rw [← hR]
 unfold slchk at hR
 by_cases h : wok k s e
 ·rw [if_pos h] at hw
  rw [if_neg (by simp [h])] at hR
  have HW := Lib.hid hw; have HR := Lib.hid hR
  have hL : Loc w [] := trivial
  clear hw hR h
  by_cases hk : k = 2
  ·subst hk
   go_enter Tryz.func15, Tryz.ntmps15
   go_wp2_with fail
   go_at_call 33
   refine (HW.out _).mono ?_
   rintro r w2 ⟨rfl, hb2⟩
   replace hL := kp hb2; (repeat rw [World.size_alloc] at hL); have hF := hL; (repeat unfold Loc at hF)
   go_wp2
   go_ret
   exact ⟨ret_i64 (by rw [HR.out]; simp), blr⟩
  ·have d1 : (k != 2) = true := by simp [hk]
   go_enter Tryz.func15, Tryz.ntmps15
   go_wp2_with fail
   go_at_call 33
   refine (HW.out _).mono ?_
   rintro r w2 ⟨rfl, hb2⟩
   replace hL := kp hb2; (repeat rw [World.size_alloc] at hL); have hF := hL; (repeat unfold Loc at hF)
   go_wp2
   go_ret
   exact ⟨ret_i64 (by rw [HR.out, if_neg hk]), blr⟩
 ·rw [if_neg h] at hw
  rw [if_pos h] at hR
  subst hR
  have HW := Lib.hid hw
  have hL : Loc w [] := trivial
  clear hw h
  go_enter Tryz.func15, Tryz.ntmps15
  go_wp2_with fail
  go_at_call 33
  refine (HW.out _).mono ?_
  rintro r w2 ⟨rfl, hb2⟩
  replace hL := kp hb2; (repeat rw [World.size_alloc] at hL); have hF := hL; (repeat unfold Loc at hF)
  go_wp2
  go_ret
  exact ⟨rfl, blr⟩
end Go.Proofs.YtnljihjhmgpcoaaGreat
