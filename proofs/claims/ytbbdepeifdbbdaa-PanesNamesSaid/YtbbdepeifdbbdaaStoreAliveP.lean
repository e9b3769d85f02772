/- Small lemmas on stores written out, and on parts of rows. No condition. -/
import Derived.Test.YtbbdepeifdbbdaaStoreLaw
namespace Go.Proofs.Ytbbdepeifdbbdaa
open Go.RowKit

theorem addE_lit {l l' : List En} {wk ws we rk rt rv side : Int} (h1 : l.length ≤ 4000 ∧ (∀ x ∈ l, enok x = true) ∧ SS l) (h2 : wok wk ws we) (h3 : side = 0 ∨ side = 1) (h4 : -1099511627776 ≤ rt ∧ rt ≤ 1099511627776)
    (h5 : givE l wk ws we rk rt rv side = (l', true)) : addE l wk ws we rk rt rv side = (l', 0) := by
  unfold addE
  rw [if_neg (by simp [enchk_zero.2 h1]), if_neg (by simp [h2]), if_neg (by omega), if_neg (by omega), h5, if_pos rfl]
theorem val_nil : ([] : List En).length ≤ 4000 ∧ (∀ x ∈ ([] : List En), enok x = true) ∧ SS [] := ⟨by simp, by simp, List.Pairwise.nil⟩
theorem allE_cons {wk ws we : Int} {a b : List En} {p : Pt} {P : List Pt} (h : addE a wk ws we p.k p.t p.v p.d = (b, 0)) : allE wk ws we a (p :: P) = allE wk ws we b P := by
  have e : allE wk ws we a (p :: P) = if (addE a wk ws we p.k p.t p.v p.d).2 = 0 then allE wk ws we (addE a wk ws we p.k p.t p.v p.d).1 P else none := rfl
  rw [e, h, if_pos rfl]
theorem rd_take {α : Type} {enc : α → List Value} {sz : Nat} {w : World} {B : Nat} {A : Option Addr} {l : List α} (h : Rd enc sz w B A l) (k : Nat) : Rd enc sz w B A (l.take k) := fun hn => by
  obtain ⟨b, off, e, hb, hc⟩ := h (by rintro rfl; simp at hn)
  refine ⟨b, off, e, hb, fun j x hx => hc j x ?_⟩
  rw [List.getElem?_take] at hx
  split at hx
  · exact hx
  · cases hx
theorem rd_drop {α : Type} {enc : α → List Value} {sz : Nat} {w : World} {B b off : Nat} {l : List α} (h : Rd enc sz w B (some ⟨b, off, none⟩) l) (k : Nat) : Rd enc sz w B (some ⟨b, off + k * sz, none⟩) (l.drop k) := fun hn => by
  obtain ⟨b', off', e, hb, hc⟩ := h (by rintro rfl; simp at hn)
  simp only [Option.some.injEq, Addr.mk.injEq, and_true] at e
  obtain ⟨rfl, rfl⟩ := e
  refine ⟨b, off + k * sz, rfl, hb, fun j x hx i u hu => ?_⟩
  rw [List.getElem?_drop] at hx
  have := hc (k + j) x hx i u hu
  rw [Nat.add_mul] at this
  rw [show off + k * sz + j * sz + i = off + (k * sz + j * sz) + i by omega]
  exact this
end Go.Proofs.Ytbbdepeifdbbdaa
