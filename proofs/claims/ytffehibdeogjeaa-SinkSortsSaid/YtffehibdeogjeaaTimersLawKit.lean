/- Chapter 18: what the laws' walks use beyond the functions' contracts: appending to a row of one's own what may lie nowhere; heaps of valid timers behind pushing, popping and Until. No condition. -/
import Derived.Test.YtffehibdeogjeaaTimersTells
namespace Go.Proofs.Ytffehibdeogjeaa
open Go.RowKit

theorem own_shape_z {α : Type} {enc : α → List Value} {sz n : Nat} {w : World} {base : Nat} {e : TypeId} {v : Value} {l : List α} (h : Own enc sz w base e v l) (hn : l.length = n) : ∃ A c, v = .slice A n c ∧ n ≤ c ∧ (A = none → c = 0) := by
  subst hn
  rcases h.2 with ⟨h', h0⟩ | ⟨g, cap, cur, h', _, _, hc, _⟩
  · exact ⟨none, 0, by rw [h', h0], by omega, fun _ => rfl⟩
  · exact ⟨_, _, h', hc, fun e => by cases e⟩
theorem rd_none {α : Type} {enc : α → List Value} {sz : Nat} {w : World} {B : Nat} {l : List α} (h : Rd enc sz w B none l) : l = [] := by
  rcases List.eq_nil_or_concat l with h' | ⟨l', x, h'⟩
  · exact h'
  · obtain ⟨_, _, e, _⟩ := h (by rw [h']; simp)
    cases e
/-- A list appended to a row of the call's own that lies at an address. -/
theorem wpList_append_more {P : Program} {w : World} {ops : Array Oper} {rest : List Oper} {o : Oper} {a : Act} {Q : Exit → Act → World → Prop} (hwd : Region.wanted o (yielded ops a.tmps) = true) (s x : Operand) (t : TypeId)
    (ho : o.op = .call { callee := .builtin .append, args := #[s, x], argTypes := #[t, t] })
    (base : Nat) (e : TypeId) (i : TypeInfo) (z : Value) (size bytes : Nat) (ht : P.underlying t = some (.slice e)) (hi : P.info? e = some i) (hz : i.zero = some z)
    (hsize : i.size = size) (hby : i.bytes = bytes) (hzs : z.cells.size = size) (hsz : 0 < size)
    {α : Type} (enc : α → List Value) (henc : ∀ y, (enc y).length = size) (g0 c0 n0 m : Nat) (xs ys zs : List α) (hs : a.eval s = .slice (some ⟨g0, 0, none⟩) n0 c0) (hown : Own enc size w base e (.slice (some ⟨g0, 0, none⟩) n0 c0) xs) (hn0 : xs.length = n0)
    (A : Option Addr) (n c : Nat) (hx : a.eval x = .slice A n c) (hnl : ys.length = n) (hc : A = none → c = 0) (hrd : Rd enc size w w.heap.size A ys) (h1 : ∀ u ∈ ys.flatMap enc, u.oneCell' = true) (hzz : xs ++ ys = zs) (hm : zs.length = m)
    (h63 : m ≤ maxLen) (hbytes : m * bytes ≤ 140737488355328) (hbase : base ≤ w.heap.size)
    (h : ∀ g cap w', Own enc size w' base e (.slice (some ⟨g, 0, none⟩) m cap) zs → m ≤ cap → g < w'.heap.size → Below base w w' → wpList P ops Q rest (a.put o.dst (.slice (some ⟨g, 0, none⟩) m cap)) w') : wpList P ops Q (o :: rest) a w := by
  subst hzz
  have hmm : m = n0 + n := by rw [← hm, List.length_append, hn0, hnl]
  cases A with
  | none =>
    obtain rfl := hc rfl
    obtain rfl := rd_none hrd
    obtain rfl : n = 0 := hnl.symm
    obtain ⟨g, cap, hv, hcc, hg⟩ := own_some hown (by simp)
    simp only [Value.slice.injEq, Option.some.injEq, Addr.mk.injEq, and_true] at hv
    obtain ⟨rfl, -, rfl⟩ := hv
    obtain rfl : m = n0 := by omega
    rw [List.append_nil] at h
    rw [hn0] at hcc
    subst hn0
    refine BigFrame.wpList_want hwd fun K hK => ?_
    have hrun := run_append_owned_none (P := P) (w := w) base t o.type e i size ht hi _ xs.length (xs.flatMap enc) hown
    unfold Oper.wp
    simp [execOp, ho, resolve, invoke, builtin, hs, hx, hrun, Result.andThen]
    exact hK _ _ (h _ _ _ hown hcc hg (Below.refl _ _))
  | some ad =>
    refine BigFrame.wpList_want hwd fun K hK => ?_
    have hnews : ∀ j u, (ys.flatMap enc)[j]? = some u → w.cell? (ad.add j) = some u := fun j u hj => by
      by_cases hy : ys = []
      · subst hy; simp at hj
      · obtain ⟨b, off, e, _, _⟩ := hrd hy
        simp only [Option.some.injEq] at e
        subst e
        exact rd_flat henc hrd j u hj
    subst hn0
    obtain ⟨v', w', hrun, r1, r2, r3⟩ := run_append_own (P := P) w base t o.type e i z size bytes ht hi hz hsize hby hzs hsz _ xs.length (xs.flatMap enc) hown ad n c (ys.flatMap enc) (by rw [flat_length henc, hnl]) hnews h1 (by omega) (by rw [← hmm]; exact hbytes) hbase
    have hv' : v' ≠ .slice none 0 0 := fun e => by have := (r3.1 e).1; cases this
    have hown' : Own enc size w' base e v' (xs ++ ys) := by unfold Own; simpa [hnl] using r1
    obtain ⟨g, cap, rfl, hcc, hg⟩ := own_some hown' hv'
    rw [hm] at hown' hcc
    unfold Oper.wp
    simp [execOp, ho, resolve, invoke, builtin, hs, hx, hrun, Result.andThen]
    refine hK _ _ ?_
    have e2 : xs.length + ys.length = m := by rw [← hm, List.length_append]
    first | (rw [e2]; exact h _ _ _ hown' hcc hg (below_of_grown r2 (fun k hk => (World.ownsRow.lt hown k hk).1) hbase)) | exact h _ _ _ hown' hcc hg (below_of_grown r2 (fun k hk => (World.ownsRow.lt hown k hk).1) hbase)

/-- What Until leaves of a heap of valid timers, and what it gives. -/
theorem until_plain {l : List Tm} (mark : Int) (h : thv l) (hl : l.length ≤ 4000) : ∃ U V, tuntil l mark = (U, V, 0) ∧ tck V = 0 ∧ U ++ sortL tlt t0 V = sortL tlt t0 l ∧ (∀ x ∈ U, x.e ≤ mark) ∧ (∀ x, V[0]? = some x → mark < x.e) ∧ U.length + V.length = l.length := by
  obtain ⟨h1, h2, h3, h4, h5⟩ := untilL_facts tsto t0 (fun t => decide (t.e ≤ mark)) l.length l (Nat.le_refl _) h.2
  refine ⟨_, _, tuntil_ok mark h hl, ?_, h2, fun x hx => by simpa using h3 x hx, fun x hx => ?_, h5⟩
  · refine tck_ok ⟨fun t ht => h.1 t ?_, h1⟩ (by omega)
    have := (sortL_perm tsto t0 _).mem_iff.2 ht
    have := List.mem_append_right (untilL tlt t0 (fun t => decide (t.e ≤ mark)) l.length l).1 this
    rw [h2] at this
    exact (sortL_perm tsto t0 l).mem_iff.1 this
  · rcases h4 with h4 | h4
    · rw [h4] at hx; cases hx
    · rw [getD_some hx] at h4
      simpa using h4
end Go.Proofs.Ytffehibdeogjeaa
