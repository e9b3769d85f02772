/- Regions that draw their order, walked by hand: an operation taken first, one that is not wanted, the only one that may come up. No condition. -/
import Derived.Test.YtffehibdeogjeaaBase
namespace Go.Proofs.Ytffehibdeogjeaa
open Go Go.RowKit
variable {P : Program} {md : Region.Mode} {ops : Array Oper} {Q : Exit → Act → World → Prop} {S : World → Prop}
theorem hTake (i : Nat) {fuel : Nat} {listed : Array Bool} {a : Act} {w : World}
    (hs : Region.noSelect ops = true) (hf : Region.free md ops listed i = true) (hr : (Region.ready md ops listed).contains i = true) (hlt : i < ops.size) (hS : S w)
    (h : ∀ oi, ops[i]? = some oi → Region.wanted oi (yielded ops a.tmps) = true ∧ ∃ v, (∀ w, S w → (execOp a.eval oi).run P w = .ok (.value v) w) ∧ (∀ c a w, Q (.panic c) (a.put oi.dst v) w → Q (.panic c) a w) ∧
      wpAnyH P md ops Q S fuel (listed.setIfInBounds i true) (a.put oi.dst v) w) : wpAnyH P md ops Q S (fuel + 1) listed a w := by
  obtain ⟨h1, v, h2, h3, h4⟩ := h _ (Array.getElem?_eq_getElem hlt)
  exact wpAnyH_take (Array.getElem?_eq_getElem hlt) hs hf hr h3 (.inl ⟨h1, h2⟩) hS h4
theorem hSkip (i : Nat) {fuel : Nat} {listed : Array Bool} {a : Act} {w : World}
    (hs : Region.noSelect ops = true) (hf : Region.free md ops listed i = true) (hr : (Region.ready md ops listed).contains i = true) (hlt : i < ops.size) (hS : S w)
    (h : ∀ oi, ops[i]? = some oi → Region.wanted oi (yielded ops a.tmps) = false ∧ (∀ c a w, Q (.panic c) (a.put oi.dst undef) w → Q (.panic c) a w) ∧
      wpAnyH P md ops Q S fuel (listed.setIfInBounds i true) (a.put oi.dst undef) w) : wpAnyH P md ops Q S (fuel + 1) listed a w := by
  obtain ⟨h1, h3, h4⟩ := h _ (Array.getElem?_eq_getElem hlt)
  exact wpAnyH_take (Array.getElem?_eq_getElem hlt) hs hf hr h3 (.inr ⟨h1, rfl⟩) hS h4
theorem hOnly (i : Nat) {fuel : Nat} {listed : Array Bool} {a : Act} {w : World} (hr : Region.ready md ops listed = [i]) (hlt : i < ops.size)
    (h : ∀ o, ops[i]? = some o → ∀ K' : Act → World → Prop, Shut (∀ a w, S w → (S w → wpAnyH P md ops Q S fuel (listed.setIfInBounds i true) a w) → K' a w) → if Region.wanted o (yielded ops a.tmps) = true then Oper.wp P o a w K' Q else K' (a.put o.dst undef) w) :
    wpAnyH P md ops Q S (fuel + 1) listed a w :=
  wpAnyH_all hr (by simp) (AllReadyH.cons (Array.getElem?_eq_getElem hlt) (h _ (Array.getElem?_eq_getElem hlt)) AllReadyH.nil)
/-- One of several that may come up. -/
theorem hCons (i : Nat) {fuel : Nat} {listed : Array Bool} {a : Act} {w : World} {rs : List Nat} (hlt : i < ops.size)
    (h : ∀ o, ops[i]? = some o → ∀ K' : Act → World → Prop, Shut (∀ a w, S w → (S w → wpAnyH P md ops Q S fuel (listed.setIfInBounds i true) a w) → K' a w) → if Region.wanted o (yielded ops a.tmps) = true then Oper.wp P o a w K' Q else K' (a.put o.dst undef) w)
    (hs : AllReadyH P md ops Q S fuel listed a w rs) : AllReadyH P md ops Q S fuel listed a w (i :: rs) :=
  AllReadyH.cons (Array.getElem?_eq_getElem hlt) (h _ (Array.getElem?_eq_getElem hlt)) hs
theorem Loc.belowB {w w' : World} {B : Nat} (hb : Below B w w') : ∀ {l : List (Nat × List Value)}, (∀ q ∈ l, q.1 < B) → Loc w l → Loc w' l
  | [], _, _ => trivial
  | (b, _) :: _, hq, ⟨h1, h2, h3, h4⟩ => ⟨Nat.lt_of_lt_of_le h1 hb.size, fun i => (hb.cell (p := ⟨b, i, none⟩) (hq _ (List.mem_cons_self))).trans (h2 i), fun i => (hb.frozen (p := ⟨b, i, none⟩) (hq _ (List.mem_cons_self))).trans (h3 i), h4.belowB hb (fun q h => hq q (List.mem_cons_of_mem _ h))⟩
/-- A step that turns blocks that were made later alone. -/
theorem Env.kept {w0 W0 W W' : World} {L : List (Nat × List Value)} (h0 : Env w0 L W0) (h : Env w0 L W) (hb : Below W0.heap.size W W') : Env w0 L W' :=
  ⟨h.1.trans (hb.mono h0.1.size), h.2.belowB hb h0.lt'⟩
end Go.Proofs.Ytffehibdeogjeaa
