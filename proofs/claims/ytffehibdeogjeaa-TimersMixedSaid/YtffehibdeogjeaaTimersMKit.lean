/- Chapter 18: a slice that may begin in the middle of a row of the call's own, read, appended to. No condition. -/
import Derived.Test.YtffehibdeogjeaaTimersLawKit
import Derived.ArgAppend
namespace Go.Proofs.Ytffehibdeogjeaa
open Go.RowKit

theorem spare {n cap j : Nat} (h : n + 1 ≤ cap) (hj : j < 3) : j < (cap - n) * 3 := by
  have := Nat.mul_le_mul_right 3 (show 1 ≤ cap - n by omega)
  omega
theorem grown_setCells (g : Nat) : ∀ (vs : List Value) (o : Nat) (w : World), w.grownBy (w.setCells g o vs) (some g)
  | [], _, w => grown_refl w _
  | v :: vs, o, w => by
    refine grown_trans (w1 := w.setCell ⟨g, o, none⟩ v) ⟨rfl, rfl, rfl, by simp, fun k hk hne => Below.heap_setCell _ _ _ _ (fun e => hne (by rw [e]))⟩ (grown_setCells g vs (o + 1) _)

/-- A slice of timers that may begin in the middle of a row of the call's own. -/
def HvAt (w : World) (base : Nat) (v : Value) (l : List Tm) : Prop :=
  (v = .slice none 0 0 ∧ l = []) ∨ ∃ g o cap, v = .slice (some ⟨g, o, none⟩) l.length cap ∧ base ≤ g ∧ g < w.heap.size ∧ l.length ≤ cap ∧
    (∀ j u, (l.flatMap tenc)[j]? = some u → w.cell? ⟨g, o + j, none⟩ = some u) ∧ (∀ j, j < (cap - l.length) * 3 → (w.cell? ⟨g, o + l.length * 3 + j, none⟩).isSome = true ∧ w.frozen? ⟨g, o + l.length * 3 + j, none⟩ = false)
theorem HvAt.own {w : World} {base : Nat} {v : Value} {l : List Tm} (h : Own tenc 3 w base 34 v l) : HvAt w base v l := by
  have h0 := h
  rcases h.2 with ⟨h', hn⟩ | ⟨g, cap, cur, rfl, hb, hg, hnc, hcm, hcs, htake⟩
  · exact .inl ⟨h', List.eq_nil_of_length_eq_zero hn⟩
  · refine .inr ⟨g, 0, cap, rfl, hb, (World.ownsRow.lt h0 g rfl).2, hnc, fun j u hj => ?_, fun j hj => ⟨?_, World.ownsRow.frozenAt h0 _⟩⟩
    · have := World.ownsRow.cells h0 (g := g) rfl j u hj
      rwa [Addr.add_lit] at this
    · simp only [World.cell?, hg, Nat.zero_add]
      have : l.length * 3 + j < cur.size := by
        rw [hcs, Nat.sub_mul] at *
        have := Nat.mul_le_mul_right 3 hnc
        omega
      simp [this]
theorem HvAt.below {w w' : World} {base : Nat} {v : Value} {l : List Tm} (h : HvAt w base v l) (hb : Below w.heap.size w w') : HvAt w' base v l := by
  rcases h with h | ⟨g, o, cap, h1, h2, h3, h4, h5, h6⟩
  · exact .inl h
  · exact .inr ⟨g, o, cap, h1, h2, Nat.lt_of_lt_of_le h3 hb.size, h4, fun j u hj => (hb.cell (p := ⟨g, o + j, none⟩) h3).trans (h5 j u hj), fun j hj => by
      rw [hb.cell (p := ⟨g, o + l.length * 3 + j, none⟩) h3, hb.frozen (p := ⟨g, o + l.length * 3 + j, none⟩) h3]
      exact h6 j hj⟩
theorem HvAt.rd {w : World} {base : Nat} {A : Option Addr} {n c : Nat} {l : List Tm} (h : HvAt w base (.slice A n c) l) : Rd tenc 3 w w.heap.size A l := by
  intro hn
  rcases h with ⟨_, h⟩ | ⟨g, o, cap, h1, h2, h3, h4, h5, h6⟩
  · exact absurd h hn
  · injection h1 with h1 _ _
    subst h1
    refine ⟨g, o, rfl, h3, fun k x hx j u hj => ?_⟩
    have := h5 (k * 3 + j) u (flat_at tenc_len l k j x u hx hj)
    rwa [← Nat.add_assoc] at this
theorem HvAt.shape {w : World} {base : Nat} {v : Value} {l : List Tm} (h : HvAt w base v l) {n : Nat} (hn : l.length = n) : ∃ A c, v = .slice A n c := by
  subst hn
  rcases h with ⟨h, rfl⟩ | ⟨g, o, cap, h1, _⟩
  · exact ⟨none, 0, h⟩
  · exact ⟨_, _, h1⟩
theorem HvAt.lt {w : World} {base : Nat} {v : Value} {l : List Tm} (h : HvAt w base v l) : ∀ k, v.ownBlock = some k → base ≤ k ∧ k < w.heap.size := by
  intro k hk
  rcases h with ⟨rfl, rfl⟩ | ⟨g, o, cap, rfl, h2, h3, _⟩
  · cases hk
  · simp [Value.ownBlock] at hk
    subst hk
    exact ⟨h2, h3⟩
/-- All but its first element. -/
theorem HvAt.tail {w : World} {base g o n cap : Nat} {x : Tm} {l : List Tm} (h : HvAt w base (.slice (some ⟨g, o, none⟩) n cap) (x :: l)) (hn : n = l.length + 1) (o' : Nat) (ho : cap ≠ 1 → o' = o + 3) : HvAt w base (.slice (some ⟨g, o', none⟩) l.length (cap - 1)) l := by
  rcases h with ⟨h, _⟩ | ⟨g', o1, cap', h1, h2, h3, h4, h5, h6⟩
  · cases h
  · simp only [Value.slice.injEq, Option.some.injEq, Addr.mk.injEq, and_true] at h1
    obtain ⟨⟨rfl, rfl⟩, -, rfl⟩ := h1
    simp only [List.length_cons] at h4 h6
    by_cases hc : cap = 1
    · have hl : l = [] := List.eq_nil_of_length_eq_zero (by omega)
      subst hl
      exact .inr ⟨g, o', cap - 1, rfl, h2, h3, by simp, fun j u hj => by simp at hj, fun j hj => by simp [hc] at hj⟩
    · obtain rfl := ho hc
      refine .inr ⟨g, _, cap - 1, rfl, h2, h3, by omega, fun j u hj => ?_, fun j hj => ?_⟩
      · have := h5 (3 + j) u (by rw [List.flatMap_cons, List.getElem?_append_right (by rw [tenc_len]; omega), tenc_len, show 3 + j - 3 = j by omega]; exact hj)
        rwa [← Nat.add_assoc] at this
      · have := h6 j (by rwa [show cap - 1 - l.length = cap - (l.length + 1) by omega] at hj)
        rwa [show o + (l.length + 1) * 3 + j = o + 3 + l.length * 3 + j by omega] at this
/-- One element appended to it. -/
theorem wpList_append_hv {P : Program} (w : World) {ops : Array Oper} {rest : List Oper} {o : Oper} {a : Act} {Q : Exit → Act → World → Prop}
    (hg : o.guard = none) (s x : Operand) (t : TypeId) (hop : o.op = Op.call { callee := Callee.builtin Builtin.append, args := #[s, x], argTypes := #[t, t] })
    (e : TypeId) (i : TypeInfo) (z : Value) (bytes : Nat) (h1 : P.underlying t = some (.slice e)) (h2 : P.info? e = some i) (h3 : i.zero = some z) (h4 : i.size = 3) (h5 : i.bytes = bytes) (h6 : z.cells.size = 3)
    (base : Nat) (A : Option Addr) (n cap : Nat) (l : List Tm) (y : Tm) (hs : a.eval s = .slice A n cap) (hn : l.length = n) (hv : HvAt w base (.slice A n cap) l)
    (ad : Addr) (c : Nat) (hx : a.eval x = .slice (some ad) 1 c) (hc : ∀ j u, ([y].flatMap tenc)[j]? = some u → w.cell? (ad.add j) = some u)
    (b1 : n + 1 ≤ maxLen) (b2 : (n + 1) * bytes ≤ 140737488355328)
    (hK : ∀ A' c' w' row, Rd tenc 3 w' w'.heap.size A' (l ++ [y]) → w.grownBy w' row → (∀ k, row = some k → (Value.slice A n cap).ownBlock = some k) → wpList P ops Q rest (a.put o.dst (.slice A' (n + 1) c')) w') :
    wpList P ops Q (o :: rest) a w := by
  subst hn
  have hone := tenc_one [y]
  have hlen : ([y].flatMap tenc).length = 1 * 3 := rfl
  have fresh : ∀ v' w', w'.ownsRow w.heap.size e 3 v' (l.length + 1) (l.flatMap tenc ++ [y].flatMap tenc) → w.grownBy w' none → wpList P ops Q rest (a.put o.dst v') w' := by
    intro v' w' r1 r2
    have hown : Own tenc 3 w' w.heap.size e v' (l ++ [y]) := by unfold Own; simpa using r1
    obtain ⟨A', c', rfl⟩ := own_shape hown
    rw [List.length_append, show [y].length = 1 from rfl] at hown ⊢
    exact hK A' c' w' none (Own.rd tenc_len hown) r2 (fun k hk => by cases hk)
  rcases hv with ⟨h, rfl⟩ | ⟨g, o0, cap', h, v2, v3, v4, v5, v6⟩
  · simp only [Value.slice.injEq] at h
    obtain ⟨rfl, -, rfl⟩ := h
    refine wpList_append_grows w hg s x t hop e i z 3 bytes h1 h2 h3 h4 h5 h6 (by omega) none 0 0 [] hs (fun _ => ⟨rfl, rfl⟩) (by simp) (fun b h => by cases h) ad 1 c ([y].flatMap tenc) hx hlen hc hone (by omega) b1 b2 ?_
    intro v' w' r1 r2
    exact fresh v' w' (by simpa using r1) r2
  · simp only [Value.slice.injEq] at h
    obtain ⟨rfl, -, rfl⟩ := h
    refine wpList_append_arg w hg s x t hop e i z 3 bytes h1 h2 h3 h4 h5 h6 (by omega) g o0 l.length cap (l.flatMap tenc) hs (flat_length tenc_len l) v5 ad 1 c ([y].flatMap tenc) hx hlen hc hone (fun hr j hj => v6 j (spare hr (by rw [hlen] at hj; omega))) b1 b2 ?_ ?_
    · intro hr
      have hgr := grown_setCells g ([y].flatMap tenc) (o0 + l.length * 3) w
      refine hK _ _ _ (some g) ?_ hgr (fun k hk => by cases hk; rfl)
      intro _
      refine ⟨g, o0, rfl, Nat.lt_of_lt_of_le v3 hgr.size, fun k x hx j u hj => ?_⟩
      have hjj : j < 3 := by have := (List.getElem?_eq_some_iff.1 hj).1; rwa [tenc_len] at this
      have hkl := (List.getElem?_eq_some_iff.1 hx).1
      simp at hkl
      by_cases hk : k < l.length
      · rw [List.getElem?_append_left hk] at hx
        rw [World.cell?_setCells_out g _ _ _ _ (fun _ _ => .inl (by show o0 + k * 3 + j < _; omega))]
        have := v5 (k * 3 + j) u (flat_at tenc_len l k j x u hx hj)
        rwa [← Nat.add_assoc] at this
      · obtain rfl : k = l.length := by omega
        have hxy : y = x := by simpa using hx
        subst hxy
        have hin := World.cell?_setCells_in g ([y].flatMap tenc) (o0 + l.length * 3) w (fun j hj => (v6 j (spare hr (by rw [hlen] at hj; omega))).1) j (by rw [hlen]; omega)
        rw [hin]
        have : ([y].flatMap tenc)[j]? = some u := by simpa using hj
        rw [List.getElem?_eq_getElem (by rw [hlen]; omega)] at this
        exact this
    · intro _ v' w' r1 r2
      exact fresh v' w' r1 r2
end Go.Proofs.Ytffehibdeogjeaa
