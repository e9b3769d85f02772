/- Arguments of the laws, opened: structs, arrays and slices of structs whose cells are all integers or bools. No condition. -/
import Derived.Test.YtffehibdeogjeaaReads
import Derived.Deep.Slices
namespace Go.Proofs.Ytffehibdeogjeaa
open Go.RowKit Go.ChangeShapes Go.WideShapes Go.ChangeAt Go.Deep

/-- The cells of a type that are integers (their kind) or bools (none), by their offsets. -/
def leaves (P : Program) : Nat → TypeId → Option (List (Nat × Option IntKind))
  | 0, _ => none
  | n + 1, t => match P.underlying t with
    | some .bool => some [(0, none)]
    | some (.int k) => some [(0, some k)]
    | some (.struct fs) => fs.toList.foldr (fun f acc => match leaves P n f.type, acc with
        | some l, some r => some (l.map (fun x => (f.offset + x.1, x.2)) ++ r)
        | _, _ => none) (some [])
    | some (.array m e) => (List.range m).foldr (fun i acc => match leaves P n e, acc with
        | some l, some r => some (l.map (fun x => (i * P.cellsOf e + x.1, x.2)) ++ r)
        | _, _ => none) (some [])
    | _ => none

def leafFits (cs : List Value) (x : Nat × Option IntKind) : Prop := match x.2 with
  | none => ∃ b, cs[x.1]? = some (.bool b)
  | some k => ∃ n, cs[x.1]? = some (.int k n) ∧ (Lit.int k n).wf = true

theorem sub_at {cs : List Value} {o c j : Nat} {v : Value} (h : ((cs.drop o).take c)[j]? = some v) : cs[o + j]? = some v := by
  rw [List.getElem?_take] at h
  split at h
  · rw [List.getElem?_drop] at h; exact h
  · cases h
theorem leafFits_sub {cs : List Value} {o c : Nat} {x : Nat × Option IntKind} (h : leafFits ((cs.drop o).take c) x) : leafFits cs (o + x.1, x.2) := by
  obtain ⟨i, k⟩ := x
  cases k with
  | none => obtain ⟨b, hb⟩ := h; exact ⟨b, sub_at hb⟩
  | some k => obtain ⟨n, hn, hw⟩ := h; exact ⟨n, sub_at hn, hw⟩

section
variable {H : Type} {enc : TypeId × Value → H} {P : Program} {w : World} {base : Nat} {spare : Nat → Bool} {held : Bool}
theorem leaves_fit : ∀ (n : Nat) (t : TypeId) (L : List (Nat × Option IntKind)) (fuel : Nat) (cs : List Value) (x : DataW H × List MemPlace),
    leaves P n t = some L → DataW.trod enc P w base spare held fuel t cs = some x → ∀ y ∈ L, leafFits cs y
  | 0, _, _, _, _, _, hL, _ => by simp [leaves] at hL
  | n + 1, t, L, fuel, cs, x, hL, h => by
    unfold leaves at hL
    split at hL
    · rename_i hu
      injection hL with hL; subst hL
      intro y hy
      rw [List.mem_singleton] at hy; subst hy
      cases fuel with
      | zero => simp [DataW.trod] at h
      | succ f =>
        unfold DataW.trod at h
        rw [hu] at h
        split at h <;> first | (rename_i e1 _; injection e1) | skip
        all_goals first | exact ⟨_, rfl⟩ | simp_all
    · rename_i k hu
      injection hL with hL; subst hL
      intro y hy
      rw [List.mem_singleton] at hy; subst hy
      obtain ⟨m, rfl, _, hw⟩ := DataW.trod_int hu h
      exact ⟨m, rfl, hw⟩
    · rename_i fs hu
      obtain ⟨xs, m, _, _, _, hlen, hf⟩ := DataW.trod_struct hu h
      have key : ∀ (l : List Field) (L : List (Nat × Option IntKind)), (∀ f ∈ l, ∃ y, DataW.trod enc P w base spare held m f.type ((cs.drop f.offset).take (P.cellsOf f.type)) = some y) →
          l.foldr (fun f acc => match leaves P n f.type, acc with
            | some l, some r => some (l.map (fun x => (f.offset + x.1, x.2)) ++ r)
            | _, _ => none) (some []) = some L → ∀ y ∈ L, leafFits cs y := by
        intro l
        induction l with
        | nil => intro L _ hL y hy; simp at hL; subst hL; cases hy
        | cons f l ih =>
          intro L hall hL y hy
          rw [List.foldr_cons] at hL
          split at hL
          · rename_i lf r h1 h2
            injection hL with hL; subst hL
            rcases List.mem_append.1 hy with hy | hy
            · obtain ⟨z, hz, rfl⟩ := List.mem_map.1 hy
              obtain ⟨q, hq⟩ := hall f (List.mem_cons_self)
              exact leafFits_sub (leaves_fit n f.type lf m _ q h1 hq z hz)
            · exact ih r (fun g hg => hall g (List.mem_cons_of_mem _ hg)) h2 y hy
          · cases hL
      refine key fs.toList L (fun f hf' => ?_) hL
      obtain ⟨i, hi, he⟩ := List.getElem_of_mem hf'
      have hi' : i < fs.size := by simpa using hi
      have hfi : fs[i]? = some f := by rw [Array.getElem?_eq_getElem hi']; simpa using he
      have := hf i f hfi
      rw [List.getElem?_eq_getElem (by omega)] at this
      exact ⟨_, this⟩
    · rename_i k e hu
      obtain ⟨xs, m, _, _, _, hlen, hf⟩ := DataW.trod_array hu h
      have key : ∀ (l : List Nat) (L : List (Nat × Option IntKind)), (∀ i ∈ l, ∃ y, DataW.trod enc P w base spare held m e ((cs.drop (i * P.cellsOf e)).take (P.cellsOf e)) = some y) →
          l.foldr (fun i acc => match leaves P n e, acc with
            | some l, some r => some (l.map (fun x => (i * P.cellsOf e + x.1, x.2)) ++ r)
            | _, _ => none) (some []) = some L → ∀ y ∈ L, leafFits cs y := by
        intro l
        induction l with
        | nil => intro L _ hL y hy; simp at hL; subst hL; cases hy
        | cons f l ih =>
          intro L hall hL y hy
          rw [List.foldr_cons] at hL
          split at hL
          · rename_i lf r h1 h2
            injection hL with hL; subst hL
            rcases List.mem_append.1 hy with hy | hy
            · obtain ⟨z, hz, rfl⟩ := List.mem_map.1 hy
              obtain ⟨q, hq⟩ := hall f (List.mem_cons_self)
              exact leafFits_sub (leaves_fit n e lf m _ q h1 hq z hz)
            · exact ih r (fun g hg => hall g (List.mem_cons_of_mem _ hg)) h2 y hy
          · cases hL
      refine key (List.range k) L (fun i hi => ?_) hL
      have := hf i (List.mem_range.1 hi)
      rw [List.getElem?_eq_getElem (by rw [hlen]; exact List.mem_range.1 hi)] at this
      exact ⟨_, this⟩
    · cases hL
/-- The cells of such a type, one by one. -/
def FitsL : List (Option IntKind) → List Value → Prop
  | [], vs => vs = []
  | some k :: ks, vs => ∃ n vs', vs = .int k n :: vs' ∧ (Lit.int k n).wf = true ∧ FitsL ks vs'
  | none :: ks, vs => ∃ b vs', vs = .bool b :: vs' ∧ FitsL ks vs'
theorem fitsL_of : ∀ (ks : List (Option IntKind)) (vs : List Value), vs.length = ks.length → (∀ (i : Nat) (k : Option IntKind), ks[i]? = some k → leafFits vs (i, k)) → FitsL ks vs
  | [], vs, hl, _ => List.eq_nil_of_length_eq_zero hl
  | some k :: ks, [], hl, _ => by simp at hl
  | none :: ks, [], hl, _ => by simp at hl
  | some k :: ks, v :: vs, hl, h => by
    obtain ⟨n, hn, hw⟩ := h 0 (some k) rfl
    simp only [List.getElem?_cons_zero, Option.some.injEq] at hn
    exact ⟨n, vs, by rw [hn], hw, fitsL_of ks vs (by simpa using hl) fun i k' hk => by
      have := h (i + 1) k' (by simpa using hk)
      cases k' with
      | none => exact this
      | some k' => exact this⟩
  | none :: ks, v :: vs, hl, h => by
    obtain ⟨b, hb⟩ := h 0 none rfl
    simp only [List.getElem?_cons_zero, Option.some.injEq] at hb
    exact ⟨b, vs, by rw [hb], fitsL_of ks vs (by simpa using hl) fun i k' hk => by
      have := h (i + 1) k' (by simpa using hk)
      cases k' with
      | none => exact this
      | some k' => exact this⟩
theorem fits_cells {n : Nat} {t : TypeId} {ks : List (Option IntKind)} {fuel : Nat} {cs : List Value} {x : DataW H × List MemPlace}
    (hL : leaves P n t = some (ks.zipIdx.map fun y => (y.2, y.1))) (hl : cs.length = ks.length) (h : DataW.trod enc P w base spare held fuel t cs = some x) : FitsL ks cs :=
  fitsL_of ks cs hl fun i k hk => leaves_fit n t _ fuel cs x hL h (i, k) (List.mem_map.2 ⟨(k, i), by
    rw [List.mem_iff_getElem?]
    exact ⟨i, by simp [hk]⟩, rfl⟩)

/-- A struct by value whose cells are all integers or bools. -/
theorem open_flat {r : Reach} {b0 n : Nat} {t : TypeId} {fs : Array Field} {v : Value} {d : DataW H} {p : List MemPlace} (ks : List (Option IntKind)) (hu : P.underlying t = some (.struct fs)) (hC : P.cellsOf t = ks.length)
    (hL : leaves P n t = some (ks.zipIdx.map fun y => (y.2, y.1))) (hv : Value.okWide P w r b0 t v) (h : DataW.Trod enc P w base spare held t v d p) : ∃ vs, v = .agg vs.toArray ∧ FitsL ks vs := by
  obtain ⟨cs, rfl, hsz⟩ := okWide_struct hu hv
  obtain ⟨fuel, hf⟩ := h
  refine ⟨cs.toList, by simp, fits_cells hL (by simpa using hsz.trans hC) hf⟩

theorem list_of {α β : Type} (P : β → α → Prop) : ∀ (rows : List β), (∀ r ∈ rows, ∃ x, P r x) → ∃ l : List α, l.length = rows.length ∧ ∀ (i : Nat) (r : β) (x : α), rows[i]? = some r → l[i]? = some x → P r x
  | [], _ => ⟨[], rfl, fun i r x h => by simp at h⟩
  | r :: rows, h => by
    obtain ⟨x, hx⟩ := h r (List.mem_cons_self)
    obtain ⟨l, hl, hP⟩ := list_of P rows fun r hr => h r (List.mem_cons_of_mem _ hr)
    refine ⟨x :: l, by simp [hl], fun i r' x' h1 h2 => ?_⟩
    cases i with
    | zero => simp at h1 h2; subst h1; subst h2; exact hx
    | succ i => exact hP i r' x' (by simpa using h1) (by simpa using h2)

/-- A slice of such elements: it reads as a list. 'dec': what a row of cells is as an element. -/
theorem open_rows {α : Type} {r : Reach} {b0 n : Nat} {t e : TypeId} {v : Value} {d : DataW H} {p : List MemPlace} (ks : List (Option IntKind)) (enc' : α → List Value) (ok : α → Prop)
    (hu : P.underlying t = some (.slice e)) (hC : P.cellsOf e = ks.length) (hL : leaves P n e = some (ks.zipIdx.map fun y => (y.2, y.1)))
    (hdec : ∀ vs, FitsL ks vs → ∃ x, vs = enc' x ∧ ok x) (hpos : 0 < ks.length)
    (hv : Value.okWide P w r b0 t v) (h : DataW.Trod enc P w base spare held t v d p) :
    ∃ (A : Option Addr) (c : Nat) (l : List α), v = .slice A l.length c ∧ l.length ≤ c ∧ c ≤ maxLen ∧ (∀ x ∈ l, ok x) ∧ Rd enc' ks.length w w.heap.size A l := by
  obtain ⟨a0, len, cap, rfl⟩ := okWide_slice hu hv
  obtain ⟨fuel, hf⟩ := h
  rcases open_slice hu hf with ⟨hcs, _⟩ | ⟨a, len', cap', m, n', D, Pl, hcs, hb, hlc, hcm, hmm, _, hel⟩
  · simp only [Value.cells, List.cons.injEq, Value.slice.injEq, and_true] at hcs
    obtain ⟨rfl, rfl, rfl⟩ := hcs
    exact ⟨none, 0, [], rfl, Nat.le_refl _, by simp [maxLen], fun x hx => (by cases hx), Rd.nil⟩
  · simp only [Value.cells, List.cons.injEq, Value.slice.injEq, and_true] at hcs
    obtain ⟨rfl, rfl, rfl⟩ := hcs
    have hlm : len ≤ m := by rw [hmm]; split <;> omega
    obtain ⟨l, hll, hP⟩ := list_of (fun (i : Nat) (x : α) => ok x ∧ w.cells? base (a.add (i * ks.length)) ks.length = some (enc' x)) (List.range len) (fun i hi => by
      have hi' := List.mem_range.1 hi
      obtain ⟨cs', hc, ht⟩ := hel i (by omega)
      rw [hC] at hc
      obtain ⟨_, hcl, _⟩ := World.cells?_some hc
      obtain ⟨x, hx, hok⟩ := hdec cs' (fits_cells hL hcl ht)
      exact ⟨x, hok, by rw [hc, hx]⟩)
    simp only [List.length_range] at hll
    subst hll
    refine ⟨some a, cap, l, rfl, hlc, hcm, fun x hx => ?_, fun hn => ?_⟩
    · obtain ⟨i, hi, rfl⟩ := List.getElem_of_mem hx
      exact (hP i i _ (by simp [hi]) (List.getElem?_eq_getElem hi)).1
    · have hl0 : 0 < l.length := List.length_pos_iff.2 hn
      have h0 := (hP 0 0 l[0] (by simp [hl0]) (List.getElem?_eq_getElem hl0)).2
      obtain ⟨_, hcl0, hat0⟩ := World.cells?_some h0
      have hc0 := hat0 0 hpos
      rw [List.getElem?_eq_getElem (by omega)] at hc0
      have hz : a.add (0 * ks.length) = a := by simp [Addr.add]
      rw [hz] at hc0
      obtain ⟨b, off, sp⟩ := a
      have hadd : (⟨b, off, sp⟩ : Addr).add 0 = ⟨b, off, sp⟩ := by simp [Addr.add]
      rw [hadd] at hc0
      have hsp : sp = none := by
        cases sp with
        | none => rfl
        | some s => simp [World.cell?] at hc0; split at hc0 <;> simp_all
      subst hsp
      have hbl : b < w.heap.size := by
        rcases Nat.lt_or_ge b w.heap.size with h1 | h1
        · exact h1
        · simp [World.cell?, Array.getElem?_eq_none h1] at hc0
      refine ⟨b, off, rfl, hbl, fun k x hx j u hu => ?_⟩
      obtain ⟨hk, _⟩ := List.getElem?_eq_some_iff.1 hx
      obtain ⟨_, hcl, hat⟩ := World.cells?_some (hP k k x (by simp [hk]) hx).2
      have hj : j < ks.length := by
        have := (List.getElem?_eq_some_iff.1 hu).1
        omega
      have := hat j hj
      rw [hu] at this
      rw [← this]
      congr 1
      unfold Addr.add
      split <;> split <;> simp_all [Nat.add_assoc]
end
end Go.Proofs.Ytffehibdeogjeaa
