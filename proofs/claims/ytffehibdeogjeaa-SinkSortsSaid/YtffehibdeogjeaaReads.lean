/- Slices that read as lists of elements (each element some cells), and slices that the call itself made: small lemmas on memory. No condition. -/
import Derived.Test.YtffehibdeogjeaaBase
import Derived.Laws.OwnMore
import Derived.Deep.AppendLies
import Derived.Deep.Draws
namespace Go.Proofs.Ytffehibdeogjeaa
open Go.RowKit

/-- The slice whose address is A reads as the list l: element k, of sz cells, lies at 'off + k * sz'. -/
def Rd {α : Type} (enc : α → List Value) (sz : Nat) (w : World) (B : Nat) (A : Option Addr) (l : List α) : Prop :=
  l ≠ [] → ∃ b off, A = some ⟨b, off, none⟩ ∧ b < B ∧ ∀ (k : Nat) (x : α), l[k]? = some x → ∀ (j : Nat) (u : Value), (enc x)[j]? = some u → w.cell? ⟨b, off + k * sz + j, none⟩ = some u

section
variable {α : Type} {enc : α → List Value} {sz : Nat} {w w' : World} {B B' : Nat} {A : Option Addr} {l : List α}
theorem Rd.nil : Rd enc sz w B A ([] : List α) := fun h => absurd rfl h
theorem Rd.at_ (h : Rd enc sz w B A l) {k : Nat} {x : α} (hx : l[k]? = some x) : ∃ b off, A = some ⟨b, off, none⟩ ∧ b < B ∧ ∀ (j : Nat) (u : Value), (enc x)[j]? = some u → w.cell? ⟨b, off + k * sz + j, none⟩ = some u := by
  obtain ⟨b, off, e, hb, hc⟩ := h (by rintro rfl; simp at hx)
  exact ⟨b, off, e, hb, hc k x hx⟩
theorem Rd.keep (h : Rd enc sz w B A l) (hk : ∀ p : Addr, p.block < B → w'.cell? p = w.cell? p) : Rd enc sz w' B A l := fun hn => by
  obtain ⟨b, off, e, hb, hc⟩ := h hn
  exact ⟨b, off, e, hb, fun k x hx j u hu => (hk _ hb).trans (hc k x hx j u hu)⟩
theorem Rd.more (h : Rd enc sz w B A l) (hB : B ≤ B') : Rd enc sz w B' A l := fun hn => by
  obtain ⟨b, off, e, hb, hc⟩ := h hn
  exact ⟨b, off, e, Nat.lt_of_lt_of_le hb hB, hc⟩
theorem Rd.below (h : Rd enc sz w B A l) (hb : Below B w w') : Rd enc sz w' B A l := h.keep fun _ hp => hb.cell hp
theorem Rd.grow (h : Rd enc sz w w.heap.size A l) (hb : Below w.heap.size w w') : Rd enc sz w' w'.heap.size A l := (h.below hb).more hb.size
theorem Rd.drewN (h : Rd enc sz w B A l) (k : Nat) : Rd enc sz (w.drewN k) B A l := h
theorem Rd.drew (h : Rd enc sz w B A l) : Rd enc sz w.drew B A l := h
theorem Rd.alloc (h : Rd enc sz w B A l) (hB : B ≤ w.heap.size) (o : Obj) : Rd enc sz (w.alloc o) B A l := h.below ((Below.refl _ _).alloc hB o)
theorem Rd.setCell (h : Rd enc sz w B A l) {p : Addr} (hB : B ≤ p.block) (u : Value) : Rd enc sz (w.setCell p u) B A l := h.below ((Below.refl _ _).setCell hB u)
/-- A cut s[i:j], as the model makes it. -/
theorem Rd.cut (h : Rd enc sz w B A l) (i j : Nat) {cap : Nat} (hij : i ≤ j) (hj : j ≤ l.length) (hc : l.length ≤ cap) :
    Rd enc sz w B (if cap = i then A else A.map (·.add (i * sz))) ((l.take j).drop i) := fun hn => by
  have hlt : i < j := by
    rcases Nat.lt_or_ge i j with h1 | h1
    · exact h1
    · exact absurd (by simp; omega) hn
  obtain ⟨b, off, rfl, hb, hcell⟩ := h (by rintro rfl; simp at hj; omega)
  rw [if_neg (by omega)]
  refine ⟨b, off + i * sz, ?_, hb, fun k x hx m u hu => ?_⟩
  · simp only [Option.map, Addr.add]; split <;> simp_all
  · have hx' : l[i + k]? = some x := by
      rw [List.getElem?_drop, List.getElem?_take] at hx
      split at hx
      · exact hx
      · cases hx
    have := hcell (i + k) x hx' m u hu
    rw [Nat.add_mul] at this
    rw [show off + i * sz + k * sz + m = off + (i * sz + k * sz) + m from by omega]
    exact this
/-- An element of a flat list of cells. -/
theorem flat_at (henc : ∀ x, (enc x).length = sz) : ∀ (l : List α) (k j : Nat) (x : α) (u : Value), l[k]? = some x → (enc x)[j]? = some u → (l.flatMap enc)[k * sz + j]? = some u
  | [], _, _, _, _, h, _ => by simp at h
  | y :: l, 0, j, x, u, h, hu => by
    simp only [List.getElem?_cons_zero, Option.some.injEq] at h
    subst h
    rw [List.flatMap_cons, Nat.zero_mul, Nat.zero_add, List.getElem?_append_left]
    · exact hu
    · exact (List.getElem?_eq_some_iff.1 hu).1
  | y :: l, k + 1, j, x, u, h, hu => by
    simp only [List.getElem?_cons_succ] at h
    rw [List.flatMap_cons, List.getElem?_append_right (by rw [henc, Nat.add_mul]; omega), henc,
      show (k + 1) * sz + j - sz = k * sz + j from by rw [Nat.add_mul]; omega]
    exact flat_at henc l k j x u h hu
theorem flat_length (henc : ∀ x, (enc x).length = sz) (l : List α) : (l.flatMap enc).length = l.length * sz := by
  induction l with
  | nil => simp
  | cons x l ih => rw [List.flatMap_cons, List.length_append, ih, henc, List.length_cons, Nat.add_mul]; omega
end

/-- The slice value v is nil or the call's own (blocks from base on): it holds the list l. -/
def Own {α : Type} (enc : α → List Value) (sz : Nat) (w : World) (base : Nat) (e : TypeId) (v : Value) (l : List α) : Prop := w.ownsRow base e sz v l.length (l.flatMap enc)

section
variable {α : Type} {enc : α → List Value} {sz : Nat} {w w' : World} {base : Nat} {e : TypeId} {v : Value} {l : List α}
theorem Own.nil (w : World) (base : Nat) (e : TypeId) : Own enc sz w base e (.slice none 0 0) ([] : List α) := World.ownsRow_nil _ _ _ _
theorem Own.form (h : Own enc sz w base e v l) : ∃ A c, v = .slice A l.length c ∧ l.length ≤ c ∧ c ≤ maxLen ∧ (∀ ad, A = some ad → ∃ g, ad = ⟨g, 0, none⟩ ∧ base ≤ g ∧ g < w.heap.size) := by
  rcases h.2 with ⟨rfl, h0⟩ | ⟨g, cap, cur, rfl, hb, hg, hnc, hcm, hcs, htake⟩
  · exact ⟨none, 0, by rw [h0], by omega, by simp [maxLen], fun _ h => by cases h⟩
  · refine ⟨_, cap, rfl, hnc, hcm, fun ad had => ⟨g, by injection had with had; exact had.symm, hb, ?_⟩⟩
    rcases Nat.lt_or_ge g w.heap.size with hlt | hge
    · exact hlt
    · rw [Array.getElem?_eq_none hge] at hg; cases hg
theorem Own.rd {A : Option Addr} {n c : Nat} (henc : ∀ x, (enc x).length = sz) (h : Own enc sz w base e (.slice A n c) l) : Rd enc sz w w.heap.size A l := fun hn => by
  have hl : 0 < l.length := List.length_pos_iff.2 hn
  obtain ⟨g, cap, hv, _, hlt⟩ := World.ownsRow.form h hl
  injection hv with hA hn' hc
  subst hA
  refine ⟨g, 0, rfl, hlt, fun k x hx j u hu => ?_⟩
  have := World.ownsRow.cells h (g := g) rfl (k * sz + j) u (flat_at henc l k j x u hx hu)
  have hadd : (⟨g, 0, none⟩ : Addr).add (k * sz + j) = ⟨g, 0 + k * sz + j, none⟩ := by unfold Addr.add; split <;> simp_all
  rw [hadd] at this
  exact this
theorem Own.grown {row : Option Nat} (h : Own enc sz w base e v l) (hg : w.grownBy w' row) (hne : v.ownBlock = none ∨ v.ownBlock ≠ row) : Own enc sz w' base e v l := World.ownsRow.kept h hg hne
theorem Own.alloc (h : Own enc sz w base e v l) (o : Obj) : Own enc sz (w.alloc o) base e v l := World.ownsRow.alloc h o
theorem Own.below (h : Own enc sz w base e v l) (hb : Below w.heap.size w w') : Own enc sz w' base e v l :=
  World.ownsRow.kept h (row := none) ⟨hb.os, hb.tape, hb.output, hb.size, fun k hk _ => hb.block k hk⟩ (by
    rcases hv : v.ownBlock with _ | k
    · exact .inl rfl
    · exact .inr (by simp))
theorem Own.mono {base' : Nat} (h : Own enc sz w base e v l) (hb : base' ≤ base) : Own enc sz w base' e v l := by
  obtain ⟨h1, h2⟩ := h
  refine ⟨h1, ?_⟩
  rcases h2 with h2 | ⟨g, cap, cur, hv, hg, r⟩
  · exact .inl h2
  · exact .inr ⟨g, cap, cur, hv, by omega, r⟩
end
end Go.Proofs.Ytffehibdeogjeaa
