/- Lemmas and contracts for the statement, joined into one text: RangeJ, RoundReg. The conditions of each stand at its head. -/
import Derived.Test.YtnljihjhmgpcoaaGreatJ6
import Derived.RangeFuncNested
import Derived.RangeFuncBound
import Derived.RangeFuncCalls
import Derived.RangeFuncLeaves
import Derived.Shelf.Abstract
import Derived.Shelf.RegionOpen
import Derived.OwnWalkIn
import Derived.TacticsInMore
import Derived.LoopNIn
import Derived.LoopIn
import Derived.Maps.AppendAt
import Derived.OrdersIn
namespace Go.Proofs.YtnljihjhmgpcoaaGreat
open Go Go.RowKit Go.Shelf
/-- What a round keeps: whatever lay from B on. -/
def KeptB (B : Nat) (W W' : World) : Prop := W.heap.size ≤ W'.heap.size ∧ ∀ k, B ≤ k → k < W.heap.size → W'.heap[k]? = W.heap[k]?
theorem KeptB.refl (B : Nat) (W : World) : KeptB B W W := ⟨Nat.le_refl _, fun _ _ _ => rfl⟩
theorem KeptB.trans {B : Nat} {X Y Z : World} (h : KeptB B X Y) (k : KeptB B Y Z) : KeptB B X Z := ⟨Nat.le_trans h.1 k.1, fun i hB hi => (k.2 i hB (Nat.lt_of_lt_of_le hi h.1)).trans (h.2 i hB hi)⟩
theorem KeptB.of_below {B : Nat} {X Y : World} (h : Below X.heap.size X Y) : KeptB B X Y := ⟨h.size, fun k _ hk => h.block k hk⟩
theorem KeptB.mono {B B' : Nat} {X Y : World} (h : KeptB B X Y) (hB : B ≤ B') : KeptB B' X Y := ⟨h.1, fun k hk hlt => h.2 k (Nat.le_trans hB hk) hlt⟩
/-- What an iterator with a row of int of its own may do: whatever lay below B stays, and so do all cells of another type. -/
structure MvB (B : Nat) (W W' : World) : Prop where
 os : W'.os = W.os
 tape : W'.tape = W.tape
 output : W'.output = W.output
 size : W.heap.size ≤ W'.heap.size
 block : ∀ k, k < W.heap.size → (k < B ∨ ∃ cs t g, t ≠ 3 ∧ W.heap[k]? = some (.cells cs t g)) → W'.heap[k]? = W.heap[k]?
theorem MvB.refl (B : Nat) (W : World) : MvB B W W := ⟨rfl, rfl, rfl, Nat.le_refl _, fun _ _ _ => rfl⟩
theorem MvB.trans {B : Nat} {X Y Z : World} (h : MvB B X Y) (k : MvB B Y Z) : MvB B X Z :=
 ⟨k.os.trans h.os, k.tape.trans h.tape, k.output.trans h.output, Nat.le_trans h.size k.size, fun i hi hc => by
  have h1 := h.block i hi hc
  refine (k.block i (Nat.lt_of_lt_of_le hi h.size) ?_).trans h1
  rcases hc with hc | ⟨cs, t, g, ht, hc⟩
  ·exact .inl hc
  ·exact .inr ⟨cs, t, g, ht, h1.trans hc⟩⟩
theorem MvB.of_below {B : Nat} {X Y : World} (h : Below X.heap.size X Y) : MvB B X Y := ⟨h.os, h.tape, h.output, h.size, fun k hk _ => h.block k hk⟩
theorem MvB.alloc {B : Nat} {X Y : World} (h : MvB B X Y) (o : Obj) : MvB B X (Y.alloc o) := h.trans (.of_below ((Below.refl _ _).alloc (Nat.le_refl _) o))
theorem MvB.drew {B : Nat} {X Y : World} (h : MvB B X Y) : MvB B X Y.drew := h.trans (.of_below (Below.drew (Below.refl _ _)))
theorem MvB.mono {B B' : Nat} {X Y : World} (h : MvB B X Y) (hB : B' ≤ B) : MvB B' X Y := ⟨h.os, h.tape, h.output, h.size, fun k hk hc => h.block k hk (hc.imp (fun h => Nat.lt_of_lt_of_le h hB) id)⟩
theorem MvB.below {B : Nat} {X Y : World} (h : MvB B X Y) (hB : B ≤ X.heap.size) : Below B X Y := ⟨h.os, h.tape, h.output, h.size, fun k hk => h.block k (Nat.lt_of_lt_of_le hk hB) (.inl hk)⟩
theorem MvB.cell {B : Nat} {X Y : World} (h : MvB B X Y) (hB : B ≤ X.heap.size) {p : Addr} (hp : p.block < B) : Y.cell? p = X.cell? p := (h.below hB).cell hp
theorem MvB.app {α : Type} {enc : α → List Value} {sz : Nat} {B : Nat} {W W' : World} {base : Nat} {v : Value} {l : List α} (own : Own enc sz W base 3 v l) (hB : B ≤ base) (hg : W.grownBy W' v.ownBlock) : MvB B W W' :=
 ⟨hg.os, hg.tape, hg.output, hg.size, fun k hk hc => by
  refine hg.block k hk fun e => ?_
  rcases own.2 with ⟨rfl, _⟩ | ⟨g, cap, cur, rfl, hb, hh, _⟩
  ·cases e
  ·have e' : some k = some g := e
   obtain rfl := Option.some.inj e'
   rcases hc with hc | ⟨cs, t, g', ht, hc⟩
   ·omega
   ·rw [hh] at hc
    simp only [Option.some.injEq, Obj.cells.injEq] at hc
    exact ht hc.2.1.symm⟩
theorem MvB.putObj {B : Nat} (W : World) (l : Nat) (o o' : Obj) (hl : B ≤ l) (ho : W.heap[l]? = some o) (hc : o.isCells = false) : MvB B W (W.putObj l o') :=
 ⟨rfl, rfl, rfl, by simp [World.putObj], fun k hk h => by
  refine World.putObj_heap_other fun e => ?_
  subst e
  rcases h with h | ⟨cs, t, g, _, h⟩
  ·omega
  ·rw [ho] at h
   obtain rfl := Option.some.inj h
   cases hc⟩
/-- An invariant of the caller's that speaks of what lay below B, and of cells of other types. -/
def StaysB (B : Nat) (J : World → Prop) : Prop := ∀ W W', J W → MvB B W W' → J W'
/-- An iterator's contract: the caller's invariant is held over all rounds, for whatever elements come. -/
def SeqJ {α : Type} (F : Fence) (n : Nat) (P : Program) (g : Nat) (lb : Array Value) (encs : α → Array Value) (ok : α → Prop) (Jn : World → Prop) : Prop :=
 ∀ (l : Nat) (J : World → Prop) (W : World), StaysB W.heap.size J → (∀ W, J W → Jn W) →
  (∀ x W1, ok x → J W1 → W.heap.size ≤ W1.heap.size → YieldAt F (n - 1) P l (encs x) W1 fun e W' => e = .returned (.bool true) ∧ J W' ∧ KeptB W.heap.size W1 W') →
  J W → CallsIn F n P g (#[.func (.yield l) #[] #[]] ++ lb) W fun e W' => (∃ v, e = .returned v) ∧ J W' ∧ W.heap.size ≤ W'.heap.size
/-- How a round's body is left. -/
def postJ (B : Nat) (J : World → Prop) (W : World) : Exit → Act → World → Prop
 | .normal, _, W' => J W' ∧ KeptB B W W'
 | _, _, _ => False
theorem wpIn_rangeFunc_J {α : Type} {F : Fence} {n : Nat} {P : Program} {g : Operand} {ps : Array Tmp} {assign body : Code} {Q : Exit → Act → World → Prop} {a : Act} {w : World}
  (hro : F.round = none) (h1 : 1 ≤ n) {gf : Nat} {lb : Array Value} (hg : a.eval g = .func (.func gf) #[] lb) (hFg : F.fn gf) (eg : ∀ args w, (callFunc gf args).run P w = .ok (.enter gf args) w)
  {encs : α → Array Value} {ok : α → Prop} {Jn : World → Prop} (hseq : SeqJ F (n - 1) P gf lb encs ok Jn) (hps : ∀ x, (encs x).size = ps.size)
  (J : World → Prop) (hJ : StaysB w.heap.size J) (hJn : ∀ W, J W → Jn W) (h0 : J w) (a₁ : α → Act)
  (hassign : ∀ (l : Nat) (x : α) (W : World) (K : Act → World → Prop), K (a₁ x) W →
   assign.wpIn (F.inRound l) (n - 1 - 1) P (Exit.then K (fun _ _ _ => False)) { tmps := (ps.zip (encs x)).foldl (fun t (p, v) => t.setIfInBounds p v) a.tmps, defers := [] } W)
  (hbody : ∀ (l : Nat) (x : α) (W : World), ok x → J W → w.heap.size + 2 ≤ W.heap.size → body.wpIn (F.inRound l) (n - 1 - 1) P (postJ w.heap.size J W) (a₁ x) W)
  (hdone : ∀ (D : Nat) (W : World), w.heap.size ≤ D → J W → W.heap[D]? = some (.deferred (some [])) → Q .normal { a with defers := { target := .collected D, args := #[] } :: a.defers } W) :
  (Code.rangeFunc g ps assign body).wpIn F n P Q a w := by
 refine wpIn_rangeFunc ?_
 intro fn hfn
 rw [hro]
 obtain ⟨rec, hrec⟩ : ∃ rec : LoopState → Option Code → Loop, rec = fun st pe => { state := st, pending := pe, fn, tmps := a.tmps, params := ps, assign, body, defers := w.heap.size } := ⟨_, rfl⟩
 obtain ⟨W1, hW1⟩ : ∃ W1, (w.alloc (.deferred (some []))).alloc (.loop (rec .ready none)) = W1 := ⟨_, rfl⟩
 have hL1 : W1.heap[w.heap.size + 1]? = some (.loop (rec .ready none)) := by
  rw [← hW1]; have := World.alloc_heap_new (w.alloc (.deferred (some []))) (.loop (rec .ready none)); rwa [World.size_alloc] at this
 have hK1 : W1.heap[w.heap.size]? = some (.deferred (some [])) := by
  rw [← hW1]; exact (Below.heap_alloc _ _ _ (by simp)).trans (World.alloc_heap_new w _)
 have hb1 : MvB w.heap.size w W1 := by
  rw [← hW1]; exact ((MvB.refl _ w).alloc _).alloc _
 have hs1 : W1.heap.size = w.heap.size + 2 := by rw [← hW1]; simp
 have hI1 : J W1 := hJ _ _ h0 hb1
 refine ⟨w.heap.size + 1, [{ target := .collected w.heap.size, args := #[] }], W1, { target := .fn (.func gf) lb, args := #[.func (.yield (w.heap.size + 1)) #[] #[]] }, W1, gf,
  #[.func (.yield (w.heap.size + 1)) #[] #[]] ++ lb, W1, ?_, ?_, ?_, ?_, fun _ => h1, ?_⟩
 ·rw [← hW1, hrec]; exact run_enterLoop_outer _ _ _ _ _
 ·simp only [resolve, hg]
  simp [go_sem]
 ·intro f' hf'; simp [Target.leads] at hf'; subst hf'; exact hFg
 ·simp [invoke, go_sem, eg]
 ·refine (hseq (w.heap.size + 1)
   (fun W => J W ∧ W.heap[w.heap.size + 1]? = some (.loop (rec .ready none)) ∧ W.heap[w.heap.size]? = some (.deferred (some [])))
   W1 (fun A B hs hb => ⟨hJ _ _ hs.1 (hb.mono (by omega)), (hb.block _ (Array.getElem?_eq_some_iff.1 hs.2.1).1 (.inl (by omega))).trans hs.2.1, (hb.block _ (Array.getElem?_eq_some_iff.1 hs.2.2).1 (.inl (by omega))).trans hs.2.2⟩) (fun W h => hJn W h.1) ?_ ⟨hI1, hL1, hK1⟩).mono ?_
  ·rintro x W hx ⟨hi, hl, hk⟩ hsz
   rw [hs1] at hsz
   have hlt : w.heap.size + 1 < W.heap.size := (Array.getElem?_eq_some_iff.1 hl).1
   have hy := run_yield (P := P) (args := encs x) hl (by rw [hrec]; exact hps x)
   rw [hrec] at hy
   refine ⟨fn, _, assign, body, hy, roundIn_of_wpIn hfn (hassign _ x W _ ⟨_, run_beginRound hl (by rw [hrec]), ?_⟩)⟩
   have hl2 : (W.putObj (w.heap.size + 1) (.loop { rec .ready none with state := .busy })).heap[w.heap.size + 1]? = some (.loop { rec .ready none with state := .busy }) := World.putObj_heap_same hlt
   have hk2 : (W.putObj (w.heap.size + 1) (.loop { rec .ready none with state := .busy })).heap[w.heap.size]? = some (.deferred (some [])) := (World.putObj_heap_other (by omega)).trans hk
   have hb2 := MvB.putObj (B := w.heap.size) W (w.heap.size + 1) _ (.loop { rec .ready none with state := .busy }) (by omega) hl rfl
   have hsz2 : (W.putObj (w.heap.size + 1) (.loop { rec .ready none with state := .busy })).heap.size = W.heap.size := by simp [World.putObj]
   refine wpIn_mono (hbody _ x _ hx (hJ _ _ hi hb2) (by rw [hsz2]; exact hsz)) ?_
   rintro e a3 W3 hp
   cases e with
   | normal =>
    obtain ⟨hi3, hk3⟩ := hp
    have hl3 : W3.heap[w.heap.size + 1]? = some (.loop { rec .ready none with state := .busy }) := (hk3.2 _ (by omega) (by rw [hsz2]; exact hlt)).trans hl2
    have hd3 : W3.heap[w.heap.size]? = some (.deferred (some [])) := (hk3.2 _ (by omega) (by rw [hsz2]; omega)).trans hk2
    have hr := run_endRound (P := P) none hl3
    rw [hrec] at hr
    have hlt3 := (Array.getElem?_eq_some_iff.1 hl3).1
    refine ⟨_, _, hr, rfl, ⟨hJ _ _ hi3 (MvB.putObj W3 _ _ _ (by omega) hl3 rfl), ?_, (World.putObj_heap_other (by omega)).trans hd3⟩, ?_, fun k hkB hklt => ?_⟩
    ·rw [World.putObj_heap_same hlt3, hrec]; rfl
    ·simp only [World.putObj, Array.size_setIfInBounds]
     have := hk3.1; rw [hsz2] at this; exact this
    ·rw [hs1] at hkB
     rw [World.putObj_heap_other (by omega), hk3.2 k (by omega) (by rw [hsz2]; exact hklt), World.putObj_heap_other (by omega)]
   | ret => exact hp.elim
   | exit id => exact hp.elim
   | goto t => exact hp.elim
   | panic ch => exact hp.elim
   | outgrown => exact hp.elim
  ·rintro e W2 ⟨⟨v, rfl⟩, ⟨hi, hl, hk⟩, _⟩
   have he := run_endLoop (P := P) hl (by rw [hrec]; simp)
   rw [hrec] at he
   exact ⟨none, _, he, hdone _ _ (Nat.le_refl _) (hJ _ _ hi (MvB.putObj W2 _ _ _ (by omega) hl rfl)) ((World.putObj_heap_other (by omega)).trans hk)⟩
end Go.Proofs.YtnljihjhmgpcoaaGreat
namespace Go.Proofs.YtnljihjhmgpcoaaGreat
open Go Go.RowKit
def notDefer (o : Oper) : Bool := match o.op with
 | .defer _ => false
 | _ => true
theorem oper_round {P : Program} {o : Oper} {Q : Exit → Act → World → Prop} (l n : Nat) (hd : notDefer o = true) {K : Act → World → Prop} {a : Act} {w : World} (h : o.wp P a w K Q) : o.wpIn (Fence.wide.inRound l) n P a w K Q := by
 refine ⟨fun _ _ => trivial, ?_⟩
 have hs : Oper.semAt (Fence.wide.inRound l).round a.eval o = execOp a.eval o := by
  show Oper.semAt (some l) a.eval o = _
  refine Oper.semAt_some l _ _ fun c hc => ?_
  unfold notDefer at hd
  rw [hc] at hd
  cases hd
 rw [hs]
 unfold Oper.wp at h
 revert h
 generalize (execOp a.eval o).run P w = r
 intro h
 cases r with
 | ok x w' =>
  cases x with
  | value v => exact h
  | skip => exact h
  | defer d => exact h
  | enter f args => exact ⟨fun h => (by cases h), CallsIn.inRound l (callsIn_wide.2 h)⟩
  | row r args =>
   refine ⟨fun h => (by cases h), fun c cs _ => ?_⟩
   obtain ⟨v, w'', hR, hst⟩ := h c cs
   exact ⟨v, w'', hR, stepsIn_wide.2 hst⟩
  | _ => exact h.elim
 | halt x w' =>
  cases x <;> first | exact h | exact h.elim
theorem wpAny_round {P : Program} {md : Region.Mode} {ops : Array Oper} {Q : Exit → Act → World → Prop} (l n : Nat) (hd : ops.all notDefer = true) (hq : ¬ LetsOut Q) : ∀ (fuel : Nat) (listed : Array Bool) (a : Act) (w : World),
  wpAny P md ops Q fuel listed a w → wpAnyIn (Fence.wide.inRound l) n P md ops Q fuel listed a w
 | 0, _, _, _, h => h
 | fuel + 1, listed, a, w, h => ⟨h.1, fun i hi => by
   have h1 := h.2 i hi
   unfold wpOp at h1
   unfold wpOpIn
   cases ho : ops[i]? with
   | none => rw [ho] at h1; exact wpAny_round l n hd hq fuel _ _ _ h1
   | some o =>
    rw [ho] at h1
    simp only at h1 ⊢
    have hdo : notDefer o = true := by
     obtain ⟨hlt, rfl⟩ := Array.getElem?_eq_some_iff.1 ho
     exact Array.all_eq_true.1 hd i hlt
    by_cases hw : Region.wanted o (yielded ops a.tmps) = true
    ·rw [if_pos hw] at h1 ⊢
     rcases h1 with h1 | h1
     ·exact Oper.wpIn_mono (fun a w h => wpAny_round l n hd hq fuel _ a w h) (oper_round l n hdo h1)
     ·exact absurd h1.2 hq
    ·rw [if_neg hw] at h1 ⊢
     exact ⟨fun _ _ => trivial, wpAny_round l n hd hq fuel _ _ _ h1⟩⟩
theorem wpIn_region_held_round {P : Program} {ops : Array Oper} {Q : Exit → Act → World → Prop} {S : World → Prop} {id : Nat} {a : Act} {w : World} {l n : Nat} (hm : P.follows .mixedOrders = true) (hd : ops.all notDefer = true) (hq : ¬ LetsOut Q) (hS : S w.drew)
  (h : S w.drew → wpAnyH P .any ops Q S ops.size (Array.replicate ops.size false) a w.drew) : (Code.region id ops true).wpIn (Fence.wide.inRound l) n P Q a w :=
 wpIn_region_any hm (wpAny_round l n hd hq _ _ _ _ (wpAny_of_held _ _ _ _ (h hS)))
end Go.Proofs.YtnljihjhmgpcoaaGreat
