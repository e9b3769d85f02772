/- What the walk of panes.Values uses: a region's environment with a map, how far a loop over a map is. No condition. -/
import Derived.Test.YtbbdepeifdbbdaaPaneMaps
namespace Go.Proofs.Ytbbdepeifdbbdaa
open Go Go.RowKit

/-- What a region's walk keeps, and a map. -/
def EnvM (w0 : World) (L : List (Nat × List Value)) (B : Nat) (f : Int × Int → Option Acc) (w : World) : Prop := Env w0 L w ∧ MapF w B f
section
variable {w0 W w' Y : World} {L : List (Nat × List Value)} {B : Nat} {f : Int × Int → Option Acc}
theorem EnvM.step (hb : Below W.heap.size W w') (h : EnvM w0 L B f W) : EnvM w0 L B f w' := ⟨Env.step hb h.1, h.2.below hb⟩
theorem EnvM.old (h : EnvM w0 L B f W) (o : Obj) : EnvM w0 L B f (W.alloc o) := h.step ((Below.refl _ _).alloc (Nat.le_refl _) o)
theorem EnvM.drew (h : EnvM w0 L B f W) : EnvM w0 L B f W.drew := h.step (below_drew (Below.refl _ _))
theorem EnvM.far0 (h : EnvM w0 L B f W) (h' : EnvM w0 L B f Y) (v : Value) {i : Nat} : EnvM w0 L B f (W.setCell ⟨Y.heap.size, i, none⟩ v) :=
  ⟨h.1.far0 h'.1 v, h.2.kept (Below.heap_setCell _ _ _ _ (Nat.ne_of_lt h'.2.lt))⟩
end
theorem Env.grownB {w0 W w' : World} {L : List (Nat × List Value)} {B : Nat} (h : Env w0 L W) (hg : W.grownBy w' (some B)) (hB : w0.heap.size ≤ B) (hne : ∀ q ∈ L, q.1 ≠ B) : Env w0 L w' :=
  ⟨h.1.grown hg h.1.size (fun k hk => by injection hk with hk; omega), Loc.grown hg (fun q hq e => hne q hq (by injection e)) h.2⟩
theorem Loc.tl {w : World} {x : Nat × List Value} {l : List (Nat × List Value)} (h : Loc w (x :: l)) : Loc w l := by obtain ⟨b, cs⟩ := x; exact h.2.2.2
theorem MapAt.kept {w w' : World} {B : Nat} {M : List ((Int × Int) × Acc)} (h : MapAt w B M) (hb : w'.heap[B]? = w.heap[B]?) : MapAt w' B M := by
  obtain ⟨es, clock, h1, h2⟩ := h
  exact ⟨es, clock, hb.trans h1, h2⟩
theorem MapAt.below {w w' : World} {B : Nat} {M : List ((Int × Int) × Acc)} (h : MapAt w B M) (hb : Below w.heap.size w w') : MapAt w' B M := by
  have hlt : B < w.heap.size := by
    obtain ⟨es, clock, h1, _⟩ := h
    exact (Array.getElem?_eq_some_iff.1 h1).1
  exact h.kept (hb.block B hlt)
theorem MapAt.nodup {w : World} {B : Nat} {M : List ((Int × Int) × Acc)} (h : MapAt w B M) : (M.map Prod.fst).Nodup := by
  obtain ⟨es, clock, _, h2⟩ := h
  exact h2.2.2.2.2
theorem RangeAt.sub {w : World} {B r : Nat} {M D : List ((Int × Int) × Acc)} (h : RangeAt w B r M D) : ∃ E, E.Sublist M ∧ D.Perm E := by
  obtain ⟨es, clock, seen, since, c0, h1, h2, h3, _, _, h6⟩ := h
  exact ⟨_, by rw [← h2.2.1]; exact List.filter_sublist.map _, h6⟩
/-- How many have come. -/
def doneN (w : World) (B r : Nat) : Nat := match w.heap[B]?, w.heap[r]? with
  | some (.map es _), some (.mapIter _ _ seen _) => (es.toList.filter (fun e => seen.contains e.born)).length
  | _, _ => 0
theorem RangeAt.doneN {w : World} {B r : Nat} {M D : List ((Int × Int) × Acc)} (h : RangeAt w B r M D) : doneN w B r = D.length := by
  obtain ⟨es, clock, seen, since, c0, h1, _, h3, _, _, h6⟩ := h
  unfold Go.Proofs.Ytbbdepeifdbbdaa.doneN
  rw [h1, h3]
  have := h6.length_eq
  rw [List.length_map] at this
  exact this.symm
theorem oper_putP {w : World} {o : Oper} {a : Act} {Q : Exit → Act → World → Prop} {K : Act → World → Prop} (m x v : Operand) (hop : o.op = Op.mapUpdate 111 m x v) (B : Nat) (f : Int × Int → Option Acc) (hm : a.eval m = .map (some B)) (hf : MapF w B f) (k : Int × Int) (c : Acc) (hx : a.eval x = kvalP k) (hv : a.eval v = avalP c)
    (hK : ∀ w', MapF w' B (fun k' => if k' = k then some c else f k') → w.grownBy w' (some B) → w'.heap.size = w.heap.size → K (a.put o.dst undef) w') : Oper.wp Try.prog o a w K Q := by
  obtain ⟨w', hrun, r1, r2, r3⟩ := hf.put k c
  unfold Oper.wp
  simp [execOp, hop, hm, hx, hv, hrun, Result.andThen]
  exact hK w' r1 r2 r3
end Go.Proofs.Ytbbdepeifdbbdaa
