/- Lemmas and contracts for the statement, joined into one text: SortOwn. The conditions of each stand at its head. -/
import Derived.Shelf.SlSortCmp.InsertionK
import Derived.Test.YtnljihjhmgpcoaaGreatJ6
namespace Go.Proofs.YtnljihjhmgpcoaaGreat
open Go.RowKit Go.Sort
section
variable {α : Type} [Inhabited α] {enc : α → List Value} {k : Nat}
theorem flatK_at (hk : ∀ x, (enc x).length = k) (l : List α) (j : Nat) (hj : j < l.length * k) : (l.flatMap enc)[j]? = some (flatK enc k l.toArray)[j]! := by
 have hkp : 0 < k := by
  rcases Nat.eq_zero_or_pos k with h | h
  ·subst h; omega
  ·exact h
 have hq : j / k < l.length := Nat.div_lt_of_lt_mul (by rw [Nat.mul_comm]; exact hj)
 have hr := Nat.mod_lt j hkp
 have hje : j / k * k + j % k = j := by rw [Nat.mul_comm]; exact Nat.div_add_mod j k
 rw [get_flatK enc k l.toArray j (by simpa using hj)]
 have e1 : l.toArray[j / k]! = l[j / k] := by simp [hq]
 rw [e1]
 have hlen : j % k < (enc l[j / k]).length := by rw [hk]; exact hr
 have h := flat_at hk l (j / k) (j % k) l[j / k] ((enc l[j / k])[j % k]) (List.getElem?_eq_getElem hq) (List.getElem?_eq_getElem hlen)
 rw [hje] at h
 rw [h]
 exact congrArg some (getElem!_pos (enc l[j / k]) (j % k) hlen).symm
theorem own_holds {w : World} {base : Nat} {e : TypeId} {g n cap : Nat} {l : List α} (hk : ∀ x, (enc x).length = k) (h : Own enc k w base e (.slice (some ⟨g, 0, none⟩) n cap) l) (hn : n = l.length) : HoldsK enc k w g 0 l.toArray := by
 subst hn
 intro j hj
 rw [size_flatK] at hj
 have hj' : j < l.length * k := by simpa using hj
 refine ⟨?_, World.ownsRow.frozenAt h _⟩
 rw [Nat.zero_add, World.ownsRow.cellAt h j hj', flatK_at hk l j hj']
 rfl
/-- The row behind the sort. -/
theorem own_sorted {w w' : World} {base : Nat} {e : TypeId} {g n cap : Nat} {l l' : List α} (hk : ∀ x, (enc x).length = k) (h : Own enc k w base e (.slice (some ⟨g, 0, none⟩) n cap) l) (hn : n = l.length) (hl : l'.length = l.length) {m : Nat} {os : Array Obj}
  (hw : w' = sortWorldK enc k w g 0 m l'.toArray os) : Own enc k w' base e (.slice (some ⟨g, 0, none⟩) n cap) l' ∧ w.grownBy w' (some g) := by
 subst hn
 have hlt := (World.ownsRow.lt h g rfl).2
 have hsize : (putRowK enc k (Go.Sort.ahead w m) g 0 l'.toArray).heap.size = w.heap.size := by simp [putRowK, putRow, mapBlock, Go.Sort.ahead]
 have hother : ∀ i, i < w.heap.size → i ≠ g → w'.heap[i]? = w.heap[i]? := by
  intro i hi hne
  subst hw
  unfold sortWorldK grow
  show ((putRowK enc k (Go.Sort.ahead w m) g 0 l'.toArray).heap ++ os)[i]? = _
  rw [Array.getElem?_append_left (by rw [hsize]; exact hi)]
  simp [putRowK, putRow, mapBlock, Go.Sort.ahead, Array.getElem?_modify, Ne.symm hne]
 constructor
 ·rcases h.2 with ⟨h', _⟩ | ⟨g', cap', cur, h', hb, hg, hnc, hcm, hcs, htake⟩
  ·cases h'
  ·simp only [Value.slice.injEq, Option.some.injEq, Addr.mk.injEq, and_true] at h'
   obtain ⟨rfl, _, rfl⟩ := h'
   have hblock : w'.heap[g]? = some (.cells (putCells id 0 (flatK enc k l'.toArray) cur) e (0, 0)) := by
    subst hw
    unfold sortWorldK grow
    show ((putRowK enc k (Go.Sort.ahead w m) g 0 l'.toArray).heap ++ os)[g]? = _
    rw [Array.getElem?_append_left (by rw [hsize]; exact hlt)]
    simp [putRowK, putRow, mapBlock, Go.Sort.ahead, Array.getElem?_modify, hg, onCells]
   unfold Own
   rw [hl]
   refine ⟨by rw [flat_length hk, hl], .inr ⟨g, cap, _, rfl, hb, hblock, hnc, hcm, by simp [putCells, hcs], ?_⟩⟩
   apply List.ext_getElem?
   intro j
   have hle := Nat.mul_le_mul_right k hnc
   rw [List.getElem?_take]
   split
   ·rename_i hj
    rw [flatK_at hk l' j (by rw [hl]; exact hj)]
    have hjc : j < cur.size := by rw [hcs]; omega
    simp [putCells, hjc, hl, hj]
   ·rename_i hj
    rw [List.getElem?_eq_none (by rw [flat_length hk, hl]; omega)]
 ·subst hw
  refine ⟨rfl, rfl, rfl, ?_, fun i hi hne => hother i hi (fun e => hne (by rw [e]))⟩
  unfold sortWorldK grow
  show w.heap.size ≤ ((putRowK enc k (Go.Sort.ahead w m) g 0 l'.toArray).heap ++ os).size
  rw [Array.size_append, hsize]
  omega
theorem permIn_all {d d' : Array α} (h : PermIn 0 d.size d d') : d'.toList.Perm d.toList := by
 obtain ⟨h1, _, h3⟩ := h
 have e1 : d'.extract 0 d.size = d' := by rw [← h1]; simp
 have e2 : d.extract 0 d.size = d := by simp
 rwa [e1, e2] at h3
theorem sortedIn_all {lt : α → α → Bool} {d : Array α} (h : SortedIn lt 0 d.size d) : d.toList.Pairwise fun a b => lt b a = false := by
 rw [List.pairwise_iff_getElem]
 intro i j hi hj hij
 have := h i j (Nat.zero_le _) hij (by simpa using hj)
 have hi' : i < d.size := by simpa using hi
 have hj' : j < d.size := by simpa using hj
 simpa [hi', hj'] using this
end
end Go.Proofs.YtnljihjhmgpcoaaGreat
