/- An append of a list to a row of the call's own, inside a region whose order is open. No condition. -/
import Derived.Test.YtffehibdeogjeaaKitA
import Derived.Deep.RegionLaw
namespace Go.Proofs.Ytffehibdeogjeaa
open Go.RowKit

theorem step_append_l2 {P : Program} {w : World} {ops : Array Oper} {o : Oper} {a : Act} {K : Act → World → Prop} {Q : Exit → Act → World → Prop} {E : Prop} (hgd : o.guard = none) (s x : Operand) (t : TypeId)
    (ho : o.op = .call { callee := .builtin .append, args := #[s, x], argTypes := #[t, t] })
    (base : Nat) (e : TypeId) (i : TypeInfo) (z : Value) (size bytes : Nat) (ht : P.underlying t = some (.slice e)) (hi : P.info? e = some i) (hz : i.zero = some z)
    (hsize : i.size = size) (hby : i.bytes = bytes) (hzs : z.cells.size = size) (hsz : 0 < size)
    {α : Type} (enc : α → List Value) (henc : ∀ y, (enc y).length = size) (v : Value) (l ys : List α) (hs : a.eval s = v) (hown : Own enc size w base e v l)
    (ad : Addr) (n c : Nat) (hx : a.eval x = .slice (some ad) n c) (hnl : ys.length = n) (hnews : ∀ j u, (ys.flatMap enc)[j]? = some u → w.cell? (ad.add j) = some u) (h1 : ∀ u ∈ ys.flatMap enc, u.oneCell' = true)
    (h63 : l.length + n ≤ maxLen) (hbytes : (l.length + n) * bytes ≤ 140737488355328) (hbase : base ≤ w.heap.size)
    (h : ∀ v' w', Own enc size w' base e v' (l ++ ys) → w.grownBy w' v.ownBlock → Below base w w' → (v'.ownBlock = v.ownBlock ∨ ∀ k, v'.ownBlock = some k → w.heap.size ≤ k) → K (a.put o.dst v') w') :
    if Region.wanted o (yielded ops a.tmps) = true then Oper.wp P o a w K Q else E := by
  have hw : Region.wanted o (yielded ops a.tmps) = true := by simp [Region.wanted, hgd]
  rw [if_pos hw]
  have hlen : (ys.flatMap enc).length = n * size := by rw [flat_length henc, hnl]
  have key : ∃ v' w', (Builtin.append_ #[t, t] o.type #[v, .slice (some ad) n c]).run P w = .ok v' w' ∧ Own enc size w' base e v' (l ++ ys) ∧ w.grownBy w' v.ownBlock ∧ (v'.ownBlock = v.ownBlock ∨ ∀ k, v'.ownBlock = some k → w.heap.size ≤ k) := by
    have h0 := hown
    rcases hown.2 with ⟨rfl, hl0⟩ | ⟨g, cap, cur, rfl, hb, hg, hnc, hcm, hcs, htake⟩
    · have hl : l = [] := List.eq_nil_of_length_eq_zero hl0
      subst hl
      obtain ⟨v', w', hrun, r1, r2, _⟩ := run_append_own (P := P) w w.heap.size t o.type e i z size bytes ht hi hz hsize hby hzs hsz (.slice none 0 0) 0 [] (World.ownsRow_nil w _ e size) ad n c (ys.flatMap enc) hlen hnews h1 (by simpa using h63) (by simpa using hbytes) (Nat.le_refl _)
      have ho' : Own enc size w' w.heap.size e v' ([] ++ ys) := by unfold Own; simpa [hnl] using r1
      exact ⟨v', w', hrun, ho'.mono hbase, r2, .inr (fun k hk => (World.ownsRow.lt ho' k hk).1)⟩
    · by_cases hr : l.length + n ≤ cap
      · obtain ⟨v', w', hrun, r1, r2, _⟩ := run_append_own (P := P) w base t o.type e i z size bytes ht hi hz hsize hby hzs hsz _ l.length (l.flatMap enc) hown ad n c (ys.flatMap enc) hlen hnews h1 h63 hbytes hbase
        have hrun2 := run_append_room_cells (P := P) (w := w) t o.type e i ht hi g 0 l.length cap ad n c (ys.flatMap enc) (by rw [hsize]; exact hlen) hnews h1 hr (fun j hj => by
          rw [hlen] at hj
          simp only [World.cell?, hg, Nat.zero_add, hsize]
          have h2 := Nat.mul_le_mul_right size hr
          rw [Nat.add_mul] at h2
          have : l.length * size + j < cur.size := by rw [hcs]; omega
          simp [this]) (fun j _ => World.ownsRow.frozenAt h0 _)
        rw [hrun] at hrun2
        injection hrun2 with e1 e2
        refine ⟨v', w', hrun, ?_, r2, .inl (by rw [e1]; rfl)⟩
        unfold Own
        simpa [hnl] using r1
      · have holds : ∀ j u, (l.flatMap enc)[j]? = some u → w.cell? ((⟨g, 0, none⟩ : Addr).add j) = some u := World.ownsRow.cells h0 (g := g) rfl
        obtain ⟨v', w', hrun, r1, r2⟩ := run_append_arg_grows (P := P) (w := w) t o.type e i z size bytes ht hi hz hsize hby hzs hsz ⟨g, 0, none⟩ l.length cap (l.flatMap enc) (flat_length henc l) holds ad n c (ys.flatMap enc) hlen hnews (by omega) h63 hbytes
        have ho' : Own enc size w' w.heap.size e v' (l ++ ys) := by unfold Own; simpa [hnl] using r1
        exact ⟨v', w', hrun, ho'.mono hbase, grown_any r2, .inr (fun k hk => (World.ownsRow.lt ho' k hk).1)⟩
  obtain ⟨v', w', hrun, k1, k2, k3⟩ := key
  unfold Oper.wp
  simp [execOp, ho, resolve, invoke, builtin, hs, hx, hrun, Result.andThen]
  exact h v' w' k1 k2 (below_of_grown k2 (fun k hk => (World.ownsRow.lt hown k hk).1) hbase) k3
end Go.Proofs.Ytffehibdeogjeaa
