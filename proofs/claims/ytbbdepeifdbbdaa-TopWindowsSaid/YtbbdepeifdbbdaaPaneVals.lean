/- What panes.Values returns (chapter 19), and the contract of the reference's Values. Condition: numbers within their types. -/
import Derived.Test.YtbbdepeifdbbdaaPaneParts2
import Derived.Test.YtbbdepeifdbbdaaStoreInv4
import Derived.Test.YtbbdepeifdbbdaaStoreGivenA
namespace Go.Proofs.Ytbbdepeifdbbdaa
open Go.RowKit

/-- Records alone: no side. -/
def rcenc (p : Pt) : List Value := [.int .i64 p.k, .int .i64 p.t, .int .i64 p.v]
def rctok (p : Pt) : Prop := p.d = 0 ∧ (Lit.int .i64 p.v).wf = true
theorem rcenc_dec (vs : List Value) (h : FitsL [some .i64, some .i64, some .i64] vs) : ∃ x, vs = rcenc x ∧ rctok x := by
  obtain ⟨n1, v1, rfl, _, n2, v2, rfl, _, n3, v3, rfl, w3, rfl⟩ := h
  exact ⟨⟨n1, n2, n3, 0⟩, rfl, rfl, w3⟩
theorem rc_cells {w : World} {B : Nat} {A : Option Addr} {l : List Pt} (h : Rd rcenc 3 w B A l) {k : Nat} {x : Pt} (hx : l[k]? = some x) :
    ∃ b off, A = some ⟨b, off, none⟩ ∧ b < B ∧ w.cell? ⟨b, off + k * 3, none⟩ = some (.int .i64 x.k) ∧ w.cell? ⟨b, off + k * 3 + 1, none⟩ = some (.int .i64 x.t) ∧ w.cell? ⟨b, off + k * 3 + 2, none⟩ = some (.int .i64 x.v) := by
  obtain ⟨b, off, e, hb, hc⟩ := h.at_ hx
  exact ⟨b, off, e, hb, by simpa using hc 0 _ rfl, hc 1 _ rfl, hc 2 _ rfl⟩
def timeB (p : Pt) : Bool := decide (-1099511627776 ≤ p.t ∧ p.t ≤ 1099511627776)
theorem giv_of_add {a b : List En} {wk ws we k t v d : Int} (h : addE a wk ws we k t v d = (b, 0)) : givE a wk ws we k t v d = (b, true) := by
  unfold addE at h
  split at h
  · rename_i h1; exact absurd (congrArg Prod.snd h) h1
  · split at h
    · simp at h
    · split at h
      · simp at h
      · split at h
        · simp at h
        · split at h
          · rename_i h5
            have e := congrArg Prod.fst h
            dsimp only at e
            exact Prod.ext e h5
          · simp at h
/-- A record more, where all were times so far. -/
theorem vals_step {wk ws we : Int} {l : List Pt} {k : Nat} {p : Pt} {a : List En} (hw : wok wk ws we) (hl : ∀ x ∈ l, x.d = 0) (h240 : l.length ≤ 240) (hp : l[k]? = some p) (ht : timeB p = true)
    (htk : ∀ x ∈ l.take k, timeB x = true) (ha : allE wk ws we [] (l.take k) = some a) :
    SS a ∧ (∀ y ∈ a, enw y) ∧ (tot1 a ≤ 2305843009213690000 ∧ tot2 a ≤ 2305843009213690000) ∧ a.length ≤ 4000 ∧ (∃ b, givE a wk ws we p.k p.t p.v 0 = (b, true) ∧ allE wk ws we [] (l.take (k + 1)) = some b ∧ b.length ≤ 4000) ∧ ∀ x ∈ l.take (k + 1), timeB x = true := by
  have hkl := (List.getElem?_eq_some_iff.1 hp).1
  have hok : ∀ x ∈ l.take k, okP x := fun x hx => ⟨by have := htk x hx; unfold timeB at this; simpa using this, .inl (hl x (List.mem_of_mem_take hx))⟩
  have hokp : okP p := ⟨by unfold timeB at ht; simpa using ht, .inl (hl p (List.mem_of_getElem? hp))⟩
  obtain ⟨a', a1, a2, a3, a4, a5⟩ := all_inv hw k (l.take k) (by rw [List.length_take]; omega) (by omega) hok
  rw [ha] at a1
  obtain rfl := Option.some.inj a1
  have h16 := sumW_16 hw (l.take k)
  rw [List.length_take] at h16
  have hn := tot_nonneg (inv_w a2 hw hok)
  obtain ⟨b1, b2, b3⟩ := add_put a3 hw hokp (by omega) (by omega) (by omega)
  have h16p := nW_16 hw p
  have hd : p.d = 0 := hl p (List.mem_of_getElem? hp)
  rw [hd] at b1
  have hs := allE_snoc (a := []) hp ha
  rw [hd, b1, if_pos rfl] at hs
  refine ⟨inv_ss a2, inv_w a2 hw hok, by omega, by omega, ⟨_, giv_of_add b1, hs, by omega⟩, fun x hx => ?_⟩
  rw [List.take_add_one, hp, Option.toList, List.mem_append, List.mem_singleton] at hx
  rcases hx with hx | rfl
  · exact htk x hx
  · exact ht
end Go.Proofs.Ytbbdepeifdbbdaa
