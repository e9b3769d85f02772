/- Regions that draw their order, walked by hand, where what may be looked up hangs on how far the region has come: loads ahead of calls that make memory, and stores behind them to the cells that were loaded. No condition. -/
import Derived.Test.YtffehibdeogjeaaKitA
namespace Go.Proofs.Ytffehibdeogjeaa
open Go Go.RowKit
section
variable {P : Program} {md : Region.Mode} {ops : Array Oper} {Q : Exit → Act → World → Prop} {S : Array Bool → World → Prop} {S0 : World → Prop} {T : Array Bool → Prop}
/-- Whatever order is picked from here on, and S holds behind every operation, of those that have come up. -/
def wpAnyL (P : Program) (md : Region.Mode) (ops : Array Oper) (Q : Exit → Act → World → Prop) (S : Array Bool → World → Prop) : Nat → Array Bool → Act → World → Prop
  | 0, listed, a, w => Region.ready md ops listed = [] ∧ Q .normal a w
  | fuel + 1, listed, a, w =>
    (Region.ready md ops listed = [] → Q .normal a w) ∧
    ∀ i ∈ Region.ready md ops listed, wpOp P ops Q i (fun a' w' => S (listed.setIfInBounds i true) w' ∧ wpAnyL P md ops Q S fuel (listed.setIfInBounds i true) a' w') a w
theorem wpAny_ofL : ∀ (fuel : Nat) (listed : Array Bool) (a : Act) (w : World), wpAnyL P md ops Q S fuel listed a w → wpAny P md ops Q fuel listed a w
  | 0, _, _, _, h => h
  | fuel + 1, _, _, _, h => ⟨h.1, fun i hi => wpOp_mono (fun a' w' h' => wpAny_ofL fuel _ a' w' h'.2) (h.2 i hi)⟩
theorem wpAnyL_first {i : Nat} {oi : Oper} {v : Value} (hi : ops[i]? = some oi) (hsel : ∀ (j : Nat) (o : Oper) cs b, ops[j]? = some o → o.op ≠ .select cs b)
    (hQ : ∀ c a w, Q (.panic c) (a.put oi.dst v) w → Q (.panic c) a w)
    (hT : ∀ L j, T L → j ∈ Region.ready md ops L → j ≠ i → i ∈ Region.ready md ops L → T (L.setIfInBounds j true))
    (hST : ∀ L w, S L w → T L → S0 w) (hset : ∀ L w, S (L.setIfInBounds i true) w ↔ S L w) :
    ∀ (fuel : Nat) (listed : Array Bool) (a : Act) (w : World),
      (∀ j oj, ops[j]? = some oj → j ≠ i → listed.getD j true = false → (∀ e ∈ oj.after, Region.binds md e = true → e.on ≠ i) → oi.apart ops oj = true) →
      i ∈ Region.ready md ops listed → T listed → YieldsIf P ops S0 oi v a → S listed w →
      wpAnyL P md ops Q S fuel (listed.setIfInBounds i true) (a.put oi.dst v) w → wpAnyL P md ops Q S (fuel + 1) listed a w := by
  intro fuel
  induction fuel with
  | zero =>
    intro listed a w _ hr hTl hy hS H
    refine ⟨fun h => (by rw [h] at hr; cases hr), fun j hj => ?_⟩
    by_cases hji : j = i
    · subst hji; exact hy.wpOp hi (hST _ _ hS hTl) ⟨(hset _ _).2 hS, H⟩
    · have := ready_mono hj hji
      rw [H.1] at this
      cases this
  | succ fuel ih =>
    intro listed a w hfree hr hTl hy hS H
    refine ⟨fun h => (by rw [h] at hr; cases hr), fun j hj => ?_⟩
    by_cases hji : j = i
    · subst hji; exact hy.wpOp hi (hST _ _ hS hTl) ⟨(hset _ _).2 hS, H⟩
    · have h1 := H.2 j (ready_mono hj hji)
      obtain ⟨hjun, oj, hoj, hall⟩ := mem_ready.1 hj
      have hnot : ∀ e ∈ oj.after, Region.binds md e = true → e.on ≠ i := fun e he hb heq => by
        have h1 := hall e he hb
        have h0 := (mem_ready.1 hr).1
        rw [heq] at h1
        rcases Nat.lt_or_ge i listed.size with h' | h'
        · simp [h'] at h0 h1; rw [h0] at h1; cases h1
        · simp [Array.getElem?_eq_none h'] at h1
      have h2 := wpOp_putIf hoj (hfree j oj hoj hji hjun hnot) (fun cs b => hsel i oi cs b hi) (fun cs b => hsel j oj cs b hoj) hQ hy h1
      have hfree' : ∀ k ok, ops[k]? = some ok → k ≠ i → (listed.setIfInBounds j true).getD k true = false →
          (∀ e ∈ ok.after, Region.binds md e = true → e.on ≠ i) → oi.apart ops ok = true := fun k ok hk hki hun hno => by
        refine hfree k ok hk hki ?_ hno
        by_cases hjk : j = k
        · subst hjk; exact hjun
        · rw [getD_set_ne true hjk] at hun; exact hun
      refine wpOp_mono (fun a' w' h3 => ?_) h2
      have h4 : S (listed.setIfInBounds j true) w' := by
        have h5 := h3.2.1
        rw [Array.setIfInBounds_comm _ _ (Ne.symm hji)] at h5
        exact (hset _ _).1 h5
      refine ⟨h4, ih (listed.setIfInBounds j true) a' w' hfree' (ready_mono hr (Ne.symm hji)) (hT _ _ hTl hj hji hr) h3.1 h4 ?_⟩
      rw [Array.setIfInBounds_comm _ _ hji]
      exact h3.2.2
/-- Number i, that yields in whatever world, is taken first. -/
theorem lTake (i : Nat) {fuel : Nat} {listed : Array Bool} {a : Act} {w : World}
    (hs : Region.noSelect ops = true) (hf : Region.free md ops listed i = true) (hr : (Region.ready md ops listed).contains i = true) (hlt : i < ops.size) (hset : ∀ L w, S (L.setIfInBounds i true) w ↔ S L w) (hS : S listed w)
    (h : ∀ oi, ops[i]? = some oi → Region.wanted oi (yielded ops a.tmps) = true ∧ ∃ v, (∀ w : World, (execOp a.eval oi).run P w = .ok (.value v) w) ∧ (∀ c a w, Q (.panic c) (a.put oi.dst v) w → Q (.panic c) a w) ∧
      wpAnyL P md ops Q S fuel (listed.setIfInBounds i true) (a.put oi.dst v) w) : wpAnyL P md ops Q S (fuel + 1) listed a w := by
  obtain ⟨h1, v, h2, h3, h4⟩ := h _ (Array.getElem?_eq_getElem hlt)
  exact wpAnyL_first (S0 := fun _ => True) (T := fun _ => True) (Array.getElem?_eq_getElem hlt) (Region.noSelect_spec hs) h3 (fun _ _ _ _ _ _ => trivial) (fun _ _ _ _ => trivial) hset fuel listed a w (Region.free_spec (Array.getElem?_eq_getElem hlt) hf) (by simpa using hr) trivial (.inl ⟨h1, fun w _ => h2 w⟩) hS h4
/-- Number i, that yields its value as long as number c, which waits for it, has not come up. -/
theorem lLoad (i c : Nat) {fuel : Nat} {listed : Array Bool} {a : Act} {w : World}
    (hs : Region.noSelect ops = true) (hf : Region.free md ops listed i = true) (hr : (Region.ready md ops listed).contains i = true) (hlt : i < ops.size) (hset : ∀ L w, S (L.setIfInBounds i true) w ↔ S L w) (hS : S listed w)
    (hc : ∀ oc, ops[c]? = some oc → oc.after.any (fun e => Region.binds md e && e.on == i) = true) (hlc : listed.getD c false = false) (hic : i ≠ c) (hST : ∀ L w, S L w → L.getD c false = false → S0 w)
    (h : ∀ oi, ops[i]? = some oi → Region.wanted oi (yielded ops a.tmps) = true ∧ ∃ v, (∀ w : World, S0 w → (execOp a.eval oi).run P w = .ok (.value v) w) ∧ (∀ c a w, Q (.panic c) (a.put oi.dst v) w → Q (.panic c) a w) ∧
      wpAnyL P md ops Q S fuel (listed.setIfInBounds i true) (a.put oi.dst v) w) : wpAnyL P md ops Q S (fuel + 1) listed a w := by
  obtain ⟨h1, v, h2, h3, h4⟩ := h _ (Array.getElem?_eq_getElem hlt)
  refine wpAnyL_first (S0 := S0) (T := fun L => L.getD c false = false) (Array.getElem?_eq_getElem hlt) (Region.noSelect_spec hs) h3 (fun L j hTL hj hji hiL => ?_) hST hset fuel listed a w (Region.free_spec (Array.getElem?_eq_getElem hlt) hf) (by simpa using hr) hlc (.inl ⟨h1, h2⟩) hS h4
  have hjc : j ≠ c := by
    rintro rfl
    obtain ⟨_, oj, hoj, hall⟩ := mem_ready.1 hj
    have h5 := hc oj hoj
    rw [Array.any_eq_true] at h5
    obtain ⟨n, hn, h6⟩ := h5
    simp only [Bool.and_eq_true, beq_iff_eq] at h6
    have h7 := hall _ (Array.getElem_mem hn) h6.1
    rw [h6.2] at h7
    have h0 := (mem_ready.1 hiL).1
    rcases Nat.lt_or_ge i L.size with h' | h'
    · simp [h'] at h0 h7; rw [h0] at h7; cases h7
    · simp [Array.getElem?_eq_none h'] at h7
  show (L.setIfInBounds j true).getD c false = false
  rw [getD_set_ne false hjc]
  exact hTL
/-- The only one that may come up. -/
theorem lOnly (i : Nat) {fuel : Nat} {listed : Array Bool} {a : Act} {w : World} (hr : Region.ready md ops listed = [i]) (hlt : i < ops.size)
    (h : ∀ o, ops[i]? = some o → ∀ K' : Act → World → Prop, Shut (∀ a w, S (listed.setIfInBounds i true) w → wpAnyL P md ops Q S fuel (listed.setIfInBounds i true) a w → K' a w) → if Region.wanted o (yielded ops a.tmps) = true then Oper.wp P o a w K' Q else K' (a.put o.dst undef) w) :
    wpAnyL P md ops Q S (fuel + 1) listed a w := by
  refine ⟨fun h0 => absurd (hr ▸ h0) (by simp), fun j hj => ?_⟩
  rw [hr, List.mem_singleton] at hj
  subst hj
  have h1 := h _ (Array.getElem?_eq_getElem hlt) (fun a' w' => S (listed.setIfInBounds j true) w' ∧ wpAnyL P md ops Q S fuel (listed.setIfInBounds j true) a' w') (show Shut _ from fun a w h2 h3 => ⟨h2, h3⟩)
  unfold wpOp
  rw [Array.getElem?_eq_getElem hlt]
  dsimp only
  split
  · rename_i hw
    rw [if_pos hw] at h1
    exact .inl h1
  · rename_i hw
    rw [if_neg hw] at h1
    exact h1
theorem lDone {listed : Array Bool} {a : Act} {w : World} (hr : Region.ready md ops listed = []) (h : Q .normal a w) : ∀ fuel, wpAnyL P md ops Q S fuel listed a w
  | 0 => ⟨hr, h⟩
  | _ + 1 => ⟨fun _ => h, by rw [hr]; simp⟩
/-- As long as one of some operations has not come up, E holds. -/
def PhS (cs : List Nat) (E : World → Prop) (L : Array Bool) (w : World) : Prop := (∃ c ∈ cs, L.getD c false = false) → E w
theorem PhS.set {cs : List Nat} {E : World → Prop} {L : Array Bool} {w : World} {i : Nat} (hi : i ∉ cs) : PhS cs E (L.setIfInBounds i true) w ↔ PhS cs E L w := by
  unfold PhS
  have e : (∃ c ∈ cs, (L.setIfInBounds i true).getD c false = false) ↔ (∃ c ∈ cs, L.getD c false = false) := by
    constructor
    · rintro ⟨c, hc, h⟩
      have hne : i ≠ c := by rintro rfl; exact hi hc
      exact ⟨c, hc, by rwa [getD_set_ne false hne] at h⟩
    · rintro ⟨c, hc, h⟩
      have hne : i ≠ c := by rintro rfl; exact hi hc
      exact ⟨c, hc, by rwa [getD_set_ne false hne]⟩
  rw [e]
theorem PhS.get {cs : List Nat} {E : World → Prop} {L : Array Bool} {w : World} {c : Nat} (hc : c ∈ cs) (h : PhS cs E L w) (h0 : L.getD c false = false) : E w := h ⟨c, hc, h0⟩
theorem PhS.of {cs : List Nat} {E : World → Prop} {L : Array Bool} {w : World} (h : E w) : PhS cs E L w := fun _ => h
theorem PhS.done {cs : List Nat} {E : World → Prop} {L : Array Bool} {w : World} (h : (cs.all fun c => L.getD c false) = true) : PhS cs E L w := by
  rintro ⟨c, hc, h0⟩
  have := List.all_eq_true.1 h c hc
  rw [h0] at this
  cases this
theorem wp_region_L {id : Nat} {a : Act} {w : World} (hm : P.follows .mixedOrders = true) (S : Array Bool → World → Prop)
    (h : wpAnyL P .any ops Q S ops.size (Array.replicate ops.size false) a w.drew) : (Code.region id ops true).wp P Q a w :=
  wp_region_any hm (wpAny_ofL _ _ _ _ h)
end
end Go.Proofs.Ytffehibdeogjeaa
