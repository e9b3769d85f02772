/- Lemmas and contracts that the later texts use: SortOwn, SessPlain, SessFuncs, SessSort, SessNone, SessRows, SessRight, joined into one text. The conditions of each stand at its head. -/
import Derived.Shelf.SlSortCmp.InsertionK
import Derived.Test.YtffehibdeogjeaaKitA
import Derived.Lib.Hide
import Derived.Test.YtffehibdeogjeaaKitB
import Derived.Lib.SliceRun
import Derived.Test.YtffehibdeogjeaaKitC
import Derived.Test.YtffehibdeogjeaaSortLaid
import Derived.Shelf.SlSortCmp.WholeK
import Derived.Shelf.SlSortCmp.NoneTotal
import Derived.ArgAppend
/- slices.SortFunc over a row of the call's own, said of lists: what the kit's contract asks and gives, in the terms of this seat. No condition. -/
namespace Go.Proofs.Ytffehibdeogjeaa
open Go.RowKit Go.Sort

section
variable {α : Type} [Inhabited α] {enc : α → List Value} {k : Nat}
theorem flatK_at (hk : ∀ x, (enc x).length = k) (l : List α) (j : Nat) (hj : j < l.length * k) : (l.flatMap enc)[j]? = some (flatK enc k l.toArray)[j]! := by
  have hkp : 0 < k := by
    rcases Nat.eq_zero_or_pos k with h | h
    · subst h; omega
    · exact h
  have hq : j / k < l.length := Nat.div_lt_of_lt_mul (by rw [Nat.mul_comm]; exact hj)
  have hr := Nat.mod_lt j hkp
  have hje : j / k * k + j % k = j := by rw [Nat.mul_comm]; exact Nat.div_add_mod j k
  rw [get_flatK enc k l.toArray j (by simpa using hj)]
  have e1 : l.toArray[j / k]! = l[j / k] := by simp [hq]
  rw [e1]
  have hlen : j % k < (enc l[j / k]).length := by rw [hk]; exact hr
  have h := flat_at hk l (j / k) (j % k) l[j / k] ((enc l[j / k])[j % k]) (List.getElem?_eq_getElem hq) (List.getElem?_eq_getElem hlen)
  rw [hje] at h
  rw [h]
  exact congrArg some (getElem!_pos (enc l[j / k]) (j % k) hlen).symm
theorem flatK_list (hk : ∀ x, (enc x).length = k) (l : List α) : (flatK enc k l.toArray).toList = l.flatMap enc := by
  apply List.ext_getElem?
  intro j
  have hs : (flatK enc k l.toArray).size = l.length * k := by simp
  by_cases hj : j < l.length * k
  · rw [flatK_at hk l j hj, getElem!_pos (flatK enc k l.toArray) j (by rw [hs]; exact hj)]
    simp [hj]
  · rw [List.getElem?_eq_none (by simp; omega), List.getElem?_eq_none (by rw [flat_length hk]; omega)]
theorem own_holds {w : World} {base : Nat} {e : TypeId} {g n cap : Nat} {l : List α} (hk : ∀ x, (enc x).length = k) (h : Own enc k w base e (.slice (some ⟨g, 0, none⟩) n cap) l) (hn : n = l.length) : HoldsK enc k w g 0 l.toArray := by
  subst hn
  intro j hj
  rw [size_flatK] at hj
  have hj' : j < l.length * k := by simpa using hj
  refine ⟨?_, World.ownsRow.frozenAt h _⟩
  rw [Nat.zero_add, World.ownsRow.cellAt h j hj', flatK_at hk l j hj']
  rfl
/-- The row behind the sort. -/
theorem own_sorted {w w' : World} {base : Nat} {e : TypeId} {g n cap : Nat} {l l' : List α} (hk : ∀ x, (enc x).length = k) (h : Own enc k w base e (.slice (some ⟨g, 0, none⟩) n cap) l) (hn : n = l.length) (hl : l'.length = l.length) {m : Nat} {os : Array Obj}
    (hw : w' = sortWorldK enc k w g 0 m l'.toArray os) : Own enc k w' base e (.slice (some ⟨g, 0, none⟩) n cap) l' ∧ w.grownBy w' (some g) := by
  subst hn
  have hlt := (World.ownsRow.lt h g rfl).2
  have hsize : (putRowK enc k (Go.Sort.ahead w m) g 0 l'.toArray).heap.size = w.heap.size := by simp [putRowK, putRow, mapBlock, Go.Sort.ahead]
  have hother : ∀ i, i < w.heap.size → i ≠ g → w'.heap[i]? = w.heap[i]? := by
    intro i hi hne
    subst hw
    unfold sortWorldK grow
    show ((putRowK enc k (Go.Sort.ahead w m) g 0 l'.toArray).heap ++ os)[i]? = _
    rw [Array.getElem?_append_left (by rw [hsize]; exact hi)]
    simp [putRowK, putRow, mapBlock, Go.Sort.ahead, Array.getElem?_modify, Ne.symm hne]
  constructor
  · rcases h.2 with ⟨h', _⟩ | ⟨g', cap', cur, h', hb, hg, hnc, hcm, hcs, htake⟩
    · cases h'
    · simp only [Value.slice.injEq, Option.some.injEq, Addr.mk.injEq, and_true] at h'
      obtain ⟨rfl, _, rfl⟩ := h'
      have hblock : w'.heap[g]? = some (.cells (putCells id 0 (flatK enc k l'.toArray) cur) e (0, 0)) := by
        subst hw
        unfold sortWorldK grow
        show ((putRowK enc k (Go.Sort.ahead w m) g 0 l'.toArray).heap ++ os)[g]? = _
        rw [Array.getElem?_append_left (by rw [hsize]; exact hlt)]
        simp [putRowK, putRow, mapBlock, Go.Sort.ahead, Array.getElem?_modify, hg, onCells]
      unfold Own
      rw [hl]
      refine ⟨by rw [flat_length hk, hl], .inr ⟨g, cap, _, rfl, hb, hblock, hnc, hcm, by simp [putCells, hcs], ?_⟩⟩
      apply List.ext_getElem?
      intro j
      have hle := Nat.mul_le_mul_right k hnc
      rw [List.getElem?_take]
      split
      · rename_i hj
        rw [flatK_at hk l' j (by rw [hl]; exact hj)]
        have hjc : j < cur.size := by rw [hcs]; omega
        simp [putCells, hjc, hl, hj]
      · rename_i hj
        rw [List.getElem?_eq_none (by rw [flat_length hk, hl]; omega)]
  · subst hw
    refine ⟨rfl, rfl, rfl, ?_, fun i hi hne => hother i hi (fun e => hne (by rw [e]))⟩
    unfold sortWorldK grow
    show w.heap.size ≤ ((putRowK enc k (Go.Sort.ahead w m) g 0 l'.toArray).heap ++ os).size
    rw [Array.size_append, hsize]
    omega
theorem permIn_all {d d' : Array α} (h : PermIn 0 d.size d d') : d'.toList.Perm d.toList := by
  obtain ⟨h1, _, h3⟩ := h
  have e1 : d'.extract 0 d.size = d' := by rw [← h1]; simp
  have e2 : d.extract 0 d.size = d := by simp
  rwa [e1, e2] at h3
theorem sortedIn_all {lt : α → α → Bool} {d : Array α} (h : SortedIn lt 0 d.size d) : d.toList.Pairwise fun a b => lt b a = false := by
  rw [List.pairwise_iff_getElem]
  intro i j hi hj hij
  have := h i j (Nat.zero_le _) hij (by simpa using hj)
  have hi' : i < d.size := by simpa using hi
  have hj' : j < d.size := by simpa using hj
  simpa [hi', hj'] using this
end
end Go.Proofs.Ytffehibdeogjeaa

/- Sessions as plain lists of spans: what they cover fixes them; merging sorted spans, and putting one more span among sessions, keep what is covered. No condition. -/
namespace Go.Proofs.Ytffehibdeogjeaa

/-- What spans cover, on a line of half steps. -/
def Cov (l : List (Int × Int)) (z : Int) : Prop := ∃ s ∈ l, 2 * s.1 < z ∧ z < 2 * s.2
/-- Sessions: none is empty, each one ends ahead of the next. -/
def Good : List (Int × Int) → Prop
  | [] => True
  | s :: l => s.1 < s.2 ∧ (∀ x ∈ l, s.2 ≤ x.1) ∧ Good l
theorem cov_nil (z : Int) : ¬ Cov [] z := by rintro ⟨s, h, _⟩; cases h
theorem cov_cons (s : Int × Int) (l : List (Int × Int)) (z : Int) : Cov (s :: l) z ↔ (2 * s.1 < z ∧ z < 2 * s.2) ∨ Cov l z := by
  unfold Cov
  simp only [List.mem_cons, exists_eq_or_imp]
theorem cov_append (l m : List (Int × Int)) (z : Int) : Cov (l ++ m) z ↔ Cov l z ∨ Cov m z := by
  unfold Cov
  simp only [List.mem_append]
  constructor
  · rintro ⟨s, h | h, h2⟩
    · exact .inl ⟨s, h, h2⟩
    · exact .inr ⟨s, h, h2⟩
  · rintro (⟨s, h, h2⟩ | ⟨s, h, h2⟩)
    · exact ⟨s, .inl h, h2⟩
    · exact ⟨s, .inr h, h2⟩
theorem cov_perm {l m : List (Int × Int)} (h : l.Perm m) (z : Int) : Cov l z ↔ Cov m z := by
  unfold Cov
  simp only [h.mem_iff]
theorem good_mem : ∀ {l : List (Int × Int)}, Good l → ∀ x ∈ l, x.1 < x.2
  | [], _, _, h => by cases h
  | _ :: _, ⟨h1, _, h3⟩, x, h => by
    rcases List.mem_cons.1 h with rfl | h
    · exact h1
    · exact good_mem h3 x h
theorem good_append : ∀ {l m : List (Int × Int)}, Good (l ++ m) ↔ Good l ∧ Good m ∧ ∀ x ∈ l, ∀ y ∈ m, x.2 ≤ y.1
  | [], m => by simp [Good]
  | s :: l, m => by
    rw [List.cons_append]
    show (s.1 < s.2 ∧ (∀ x ∈ l ++ m, s.2 ≤ x.1) ∧ Good (l ++ m)) ↔ (s.1 < s.2 ∧ (∀ x ∈ l, s.2 ≤ x.1) ∧ Good l) ∧ Good m ∧ ∀ x ∈ s :: l, ∀ y ∈ m, x.2 ≤ y.1
    rw [good_append]
    constructor
    · rintro ⟨h1, h2, h3, h4, h5⟩
      refine ⟨⟨h1, fun x hx => h2 x (List.mem_append_left _ hx), h3⟩, h4, fun x hx y hy => ?_⟩
      rcases List.mem_cons.1 hx with rfl | hx
      · exact h2 y (List.mem_append_right _ hy)
      · exact h5 x hx y hy
    · rintro ⟨⟨h1, h2, h3⟩, h4, h5⟩
      refine ⟨h1, fun x hx => ?_, h3, h4, fun x hx => h5 x (List.mem_cons_of_mem _ hx)⟩
      rcases List.mem_append.1 hx with h | h
      · exact h2 x h
      · exact h5 s (List.mem_cons_self) x h
/-- What is covered fixes sessions. -/
theorem good_unique : ∀ {l m : List (Int × Int)}, Good l → Good m → (∀ z, Cov l z ↔ Cov m z) → l = m
  | [], [], _, _, _ => rfl
  | [], b :: m, _, ⟨h1, _, _⟩, h => absurd ((h (2 * b.1 + 1)).2 ⟨b, List.mem_cons_self, by omega, by omega⟩) (cov_nil _)
  | a :: l, [], ⟨h1, _, _⟩, _, h => absurd ((h (2 * a.1 + 1)).1 ⟨a, List.mem_cons_self, by omega, by omega⟩) (cov_nil _)
  | a :: l, b :: m, ha, hb, h => by
    have ha0 := ha
    have hb0 := hb
    obtain ⟨a1, a2, a3⟩ := ha
    obtain ⟨b1, b2, b3⟩ := hb
    have first : ∀ {x y : Int × Int} {p q : List (Int × Int)}, Good (x :: p) → Good (y :: q) → (∀ z, Cov (x :: p) z → Cov (y :: q) z) → y.1 ≤ x.1 := by
      intro x y p q hx hy hz
      obtain ⟨s, hs, s1, s2⟩ := hz (2 * x.1 + 1) ⟨x, List.mem_cons_self, by omega, by have := hx.1; omega⟩
      rcases List.mem_cons.1 hs with rfl | hs
      · omega
      · have := hy.2.1 s hs
        have := hy.1
        omega
    have e1 : a.1 = b.1 := Int.le_antisymm (first hb0 ha0 (fun z => (h z).2)) (first ha0 hb0 (fun z => (h z).1))
    have last : ∀ {x y : Int × Int} {p q : List (Int × Int)}, Good (x :: p) → Good (y :: q) → x.1 = y.1 → (∀ z, Cov (y :: q) z → Cov (x :: p) z) → y.2 ≤ x.2 := by
      intro x y p q hx hy he hz
      rcases Int.lt_or_le x.2 y.2 with hlt | hle
      · exfalso
        obtain ⟨s, hs, s1, s2⟩ := hz (2 * x.2) ⟨y, List.mem_cons_self, by have := hx.1; omega, by omega⟩
        rcases List.mem_cons.1 hs with rfl | hs
        · omega
        · have := hx.2.1 s hs
          omega
      · exact hle
    have e2 : a.2 = b.2 := Int.le_antisymm (last hb0 ha0 e1.symm (fun z => (h z).1)) (last ha0 hb0 e1 (fun z => (h z).2))
    obtain rfl : a = b := by
      obtain ⟨x, y⟩ := a
      obtain ⟨u, v⟩ := b
      simp only at e1 e2
      rw [e1, e2]
    have tails : ∀ {p q : List (Int × Int)}, Good (a :: p) → (∀ z, Cov (a :: p) z → Cov (a :: q) z) → ∀ z, Cov p z → Cov q z := by
      intro p q hp hz z hc
      rcases (cov_cons a q z).1 (hz z ((cov_cons a p z).2 (.inr hc))) with hh | hh
      · obtain ⟨s, hs, s1, s2⟩ := hc
        have := hp.2.1 s hs
        omega
      · exact hh
    rw [good_unique a3 b3 (fun z => ⟨tails ha0 (fun z => (h z).1) z, tails hb0 (fun z => (h z).2) z⟩)]

/-- Merging: one span more, behind the last one. -/
def mstep (out : List (Int × Int)) (s : Int × Int) : List (Int × Int) :=
  match out.getLast? with
  | some p => if s.1 < p.2 then out.dropLast ++ [(p.1, max p.2 s.2)] else out ++ [s]
  | none => [s]
theorem mstep_snoc (o : List (Int × Int)) (p s : Int × Int) : mstep (o ++ [p]) s = if s.1 < p.2 then o ++ [(p.1, max p.2 s.2)] else o ++ [p, s] := by
  unfold mstep
  simp
/-- Spans that lie by their starts, merged. -/
def mergeS (l : List (Int × Int)) : List (Int × Int) := l.foldl mstep []
theorem mstep_good {out : List (Int × Int)} {s : Int × Int} (hg : Good out) (hs : s.1 < s.2) (hle : ∀ x ∈ out, x.1 ≤ s.1) :
    Good (mstep out s) ∧ (∀ x ∈ mstep out s, x.1 ≤ s.1) ∧ ∀ z, Cov (mstep out s) z ↔ Cov out z ∨ (2 * s.1 < z ∧ z < 2 * s.2) := by
  rcases List.eq_nil_or_concat out with rfl | ⟨o, p, rfl⟩
  · refine ⟨⟨hs, by simp, trivial⟩, by simp [mstep], fun z => ?_⟩
    show Cov [s] z ↔ _
    rw [cov_cons]
    constructor
    · rintro (h | h)
      · exact .inr h
      · exact absurd h (cov_nil z)
    · rintro (h | h)
      · exact absurd h (cov_nil z)
      · exact .inl h
  · rw [List.concat_eq_append] at hg hle ⊢
    rw [mstep_snoc]
    obtain ⟨g1, g2, g3⟩ := good_append.1 hg
    have hp : p.1 ≤ s.1 := hle p (by simp)
    have hpp : p.1 < p.2 := g2.1
    split
    · rename_i hlt
      have hmax : p.1 < max p.2 s.2 := by omega
      refine ⟨good_append.2 ⟨g1, ⟨hmax, by simp, trivial⟩, fun x hx y hy => ?_⟩, fun x hx => ?_, fun z => ?_⟩
      · simp at hy
        subst hy
        exact g3 x hx p (by simp)
      · rcases List.mem_append.1 hx with h | h
        · exact hle x (List.mem_append_left _ h)
        · simp at h; subst h; exact hp
      · rw [cov_append, cov_append, cov_cons, cov_cons]
        simp only [cov_nil, or_false]
        constructor
        · rintro (h | ⟨h1, h2⟩)
          · exact .inl (.inl h)
          · rcases Int.lt_or_le z (2 * p.2) with h3 | h3
            · exact .inl (.inr ⟨h1, h3⟩)
            · exact .inr ⟨by omega, by omega⟩
        · rintro ((h | ⟨h1, h2⟩) | ⟨h1, h2⟩)
          · exact .inl h
          · exact .inr ⟨h1, by omega⟩
          · exact .inr ⟨by omega, by omega⟩
    · rename_i hlt
      have e : o ++ [p, s] = (o ++ [p]) ++ [s] := by simp
      rw [e]
      refine ⟨good_append.2 ⟨hg, ⟨hs, by simp, trivial⟩, fun x hx y hy => ?_⟩, fun x hx => ?_, fun z => ?_⟩
      · simp at hy
        subst hy
        rcases List.mem_append.1 hx with h | h
        · have := g3 x h p (by simp)
          omega
        · simp at h; subst h; omega
      · rcases List.mem_append.1 hx with h | h
        · exact hle x h
        · simp at h; subst h; omega
      · rw [cov_append (o ++ [p]), cov_cons]
        simp only [cov_nil, or_false]
theorem mergeS_good (l : List (Int × Int)) (hn : ∀ x ∈ l, x.1 < x.2) (hs : l.Pairwise fun a b => a.1 ≤ b.1) : Good (mergeS l) ∧ ∀ z, Cov (mergeS l) z ↔ Cov l z := by
  suffices H : ∀ (l out : List (Int × Int)), (∀ x ∈ l, x.1 < x.2) → (l.Pairwise fun a b => a.1 ≤ b.1) → Good out → (∀ x ∈ out, ∀ y ∈ l, x.1 ≤ y.1) →
      Good (l.foldl mstep out) ∧ ∀ z, Cov (l.foldl mstep out) z ↔ Cov out z ∨ Cov l z by
    have := H l [] hn hs trivial (by simp)
    refine ⟨this.1, fun z => ?_⟩
    rw [show mergeS l = l.foldl mstep [] from rfl, this.2 z]
    simp [cov_nil]
  intro l
  induction l with
  | nil => intro out _ _ hg _; exact ⟨hg, fun z => by simp [cov_nil]⟩
  | cons s l ih =>
    intro out hn hs hg hle
    obtain ⟨p1, p2⟩ := List.pairwise_cons.1 hs
    obtain ⟨m1, m2, m3⟩ := mstep_good hg (hn s (by simp)) (fun x hx => hle x hx s (by simp))
    obtain ⟨i1, i2⟩ := ih (mstep out s) (fun x hx => hn x (by simp [hx])) p2 m1 (fun x hx y hy => Int.le_trans (m2 x hx) (p1 y hy))
    refine ⟨i1, fun z => ?_⟩
    rw [List.foldl_cons, i2 z, m3 z, cov_cons, or_assoc]
/-- The same spans, in whatever order they lay, merged: the same sessions. -/
theorem mergeS_perm {l m : List (Int × Int)} (hn : ∀ x ∈ l, x.1 < x.2) (hl : l.Pairwise fun a b => a.1 ≤ b.1) (hm : m.Pairwise fun a b => a.1 ≤ b.1) (hp : l.Perm m) : mergeS l = mergeS m := by
  obtain ⟨a1, a2⟩ := mergeS_good l hn hl
  obtain ⟨b1, b2⟩ := mergeS_good m (fun x hx => hn x (hp.mem_iff.2 hx)) hm
  exact good_unique a1 b1 (fun z => by rw [a2, b2, cov_perm hp])

/-! ### one span put among sessions, as the reference does it -/
def ovl (a b : Int × Int) : Bool := decide (a.1 < b.2) && decide (b.1 < a.2)
/-- The span as it has grown, those ahead of it, those behind it. -/
def wstep (st : (Int × Int) × List (Int × Int) × List (Int × Int)) (x : Int × Int) : (Int × Int) × List (Int × Int) × List (Int × Int) :=
  if ovl x st.1 = true then ((min st.1.1 x.1, max st.1.2 x.2), st.2.1, st.2.2) else if x.1 < st.1.1 then (st.1, st.2.1 ++ [x], st.2.2) else (st.1, st.2.1, st.2.2 ++ [x])
def withS (l : List (Int × Int)) (s : Int × Int) : List (Int × Int) := let r := l.foldl wstep (s, [], []); r.2.1 ++ [r.1] ++ r.2.2
theorem wstep_good {st : (Int × Int) × List (Int × Int) × List (Int × Int)} {x : Int × Int} (hg : Good (st.2.1 ++ [st.1] ++ st.2.2)) (hx : x.1 < x.2) (hb : ∀ y ∈ st.2.1 ++ st.2.2, y.2 ≤ x.1) (hs : st.2.2 ≠ [] → st.1.2 ≤ x.1) :
    Good ((wstep st x).2.1 ++ [(wstep st x).1] ++ (wstep st x).2.2) ∧ (∀ z, Cov ((wstep st x).2.1 ++ [(wstep st x).1] ++ (wstep st x).2.2) z ↔ Cov (st.2.1 ++ [st.1] ++ st.2.2) z ∨ (2 * x.1 < z ∧ z < 2 * x.2)) ∧
      (∀ y ∈ (wstep st x).2.1 ++ (wstep st x).2.2, y.2 ≤ x.2) ∧ ((wstep st x).2.2 ≠ [] → (wstep st x).1.2 ≤ x.2) := by
  obtain ⟨s, bef, beh⟩ := st
  simp only at hg hb hs
  obtain ⟨g1, g2, g3⟩ := good_append.1 hg
  obtain ⟨g4, ⟨g5, -, -⟩, g6⟩ := good_append.1 g1
  have hbx : ∀ y ∈ bef, y.2 ≤ x.1 := fun y hy => hb y (List.mem_append_left _ hy)
  have hbs : ∀ y ∈ bef, y.2 ≤ s.1 := fun y hy => g6 y hy s (by simp)
  unfold wstep
  simp only
  by_cases ho : ovl x s = true
  · rw [if_pos ho]
    simp only [ovl, Bool.and_eq_true, decide_eq_true_eq] at ho
    have hbeh : beh = [] := by
      rcases beh with _ | ⟨y, beh⟩
      · rfl
      · have := hs (by simp); omega
    subst hbeh
    simp only [List.append_nil]
    refine ⟨good_append.2 ⟨g4, ⟨by simp only; omega, by simp, trivial⟩, fun y hy w hw => ?_⟩, fun z => ?_, fun y hy => ?_, by simp⟩
    · simp at hw
      subst hw
      have h1 := hbx y hy
      have h2 := hbs y hy
      simp only
      omega
    · rw [cov_append, cov_append, cov_cons, cov_cons]
      simp only [cov_nil, or_false]
      constructor
      · rintro (h | ⟨h1, h2⟩)
        · exact .inl (.inl h)
        · by_cases h3 : 2 * s.1 < z ∧ z < 2 * s.2
          · exact .inl (.inr h3)
          · exact .inr ⟨by omega, by omega⟩
      · rintro ((h | ⟨h1, h2⟩) | ⟨h1, h2⟩)
        · exact .inl h
        · exact .inr ⟨by omega, by omega⟩
        · exact .inr ⟨by omega, by omega⟩
    · have := hbx y hy
      omega
  · rw [if_neg ho]
    simp only [ovl, Bool.and_eq_true, decide_eq_true_eq] at ho
    by_cases hlt : x.1 < s.1
    · rw [if_pos hlt]
      have hbeh : beh = [] := by
        rcases beh with _ | ⟨y, beh⟩
        · rfl
        · have := hs (by simp); omega
      subst hbeh
      simp only [List.append_nil]
      have hxs : x.2 ≤ s.1 := by omega
      refine ⟨good_append.2 ⟨good_append.2 ⟨g4, ⟨hx, by simp, trivial⟩, fun y hy w hw => ?_⟩, ⟨g5, by simp, trivial⟩, fun y hy w hw => ?_⟩, fun z => ?_, fun y hy => ?_, by simp⟩
      · simp at hw; subst hw; exact hbx y hy
      · simp at hw; subst hw
        rcases List.mem_append.1 hy with h | h
        · exact hbs y h
        · simp at h; subst h; exact hxs
      · rw [cov_append, cov_append, cov_append, cov_cons, cov_cons]
        simp only [cov_nil, or_false]
        constructor
        · rintro ((h | h) | h)
          · exact .inl (.inl h)
          · exact .inr h
          · exact .inl (.inr h)
        · rintro ((h | h) | h)
          · exact .inl (.inl h)
          · exact .inr h
          · exact .inl (.inr h)
      · rcases List.mem_append.1 hy with h | h
        · have := hbx y h; omega
        · simp at h; subst h; omega
    · rw [if_neg hlt]
      have hsx : s.2 ≤ x.1 := by omega
      refine ⟨?_, fun z => ?_, fun y hy => ?_, fun _ => by simp only; omega⟩
      · rw [← List.append_assoc]
        refine good_append.2 ⟨hg, ⟨hx, by simp, trivial⟩, fun y hy w hw => ?_⟩
        simp at hw
        subst hw
        rcases List.mem_append.1 hy with h | h
        · rcases List.mem_append.1 h with h | h
          · exact hbx y h
          · simp at h; subst h; exact hsx
        · exact hb y (List.mem_append_right _ h)
      · rw [← List.append_assoc, cov_append (bef ++ [s] ++ beh), cov_cons]
        simp only [cov_nil, or_false]
      · rcases List.mem_append.1 hy with h | h
        · have := hbx y h; omega
        · rcases List.mem_append.1 h with h | h
          · have := hb y (List.mem_append_right _ h); omega
          · simp at h; subst h; omega
theorem withS_good (l : List (Int × Int)) (s : Int × Int) (hg : Good l) (hs : s.1 < s.2) : Good (withS l s) ∧ ∀ z, Cov (withS l s) z ↔ Cov l z ∨ (2 * s.1 < z ∧ z < 2 * s.2) := by
  suffices H : ∀ (l : List (Int × Int)) (st : (Int × Int) × List (Int × Int) × List (Int × Int)), Good l → Good (st.2.1 ++ [st.1] ++ st.2.2) → (∀ x ∈ l, (∀ y ∈ st.2.1 ++ st.2.2, y.2 ≤ x.1) ∧ (st.2.2 ≠ [] → st.1.2 ≤ x.1)) →
      Good ((l.foldl wstep st).2.1 ++ [(l.foldl wstep st).1] ++ (l.foldl wstep st).2.2) ∧ ∀ z, Cov ((l.foldl wstep st).2.1 ++ [(l.foldl wstep st).1] ++ (l.foldl wstep st).2.2) z ↔ Cov (st.2.1 ++ [st.1] ++ st.2.2) z ∨ Cov l z by
    obtain ⟨h1, h2⟩ := H l (s, [], []) hg ⟨hs, by simp, trivial⟩ (fun x _ => ⟨by simp, by simp⟩)
    refine ⟨h1, fun z => (h2 z).trans ?_⟩
    simp only [List.nil_append, List.append_nil]
    rw [cov_cons]
    simp only [cov_nil, or_false]
    exact or_comm
  intro l
  induction l with
  | nil => intro st _ hg _; exact ⟨hg, fun z => by simp [cov_nil]⟩
  | cons x l ih =>
    intro st hl hg hb
    obtain ⟨l1, l2, l3⟩ := hl
    obtain ⟨b1, b2⟩ := hb x (by simp)
    obtain ⟨w1, w2, w3, w4⟩ := wstep_good hg l1 b1 b2
    obtain ⟨i1, i2⟩ := ih (wstep st x) l3 w1 (fun y hy => ⟨fun u hu => Int.le_trans (w3 u hu) (l2 y hy), fun h => Int.le_trans (w4 h) (l2 y hy)⟩)
    refine ⟨i1, fun z => ?_⟩
    rw [List.foldl_cons, i2 z, w2 z, cov_cons, or_assoc]
end Go.Proofs.Ytffehibdeogjeaa

/- The contracts of slices.Clone at spans and of the sessions' checks (chapter 15). Condition: lists of at most 2^40 spans. -/
namespace Go.Proofs.Ytffehibdeogjeaa
open Go.RowKit

theorem sp_info : (Try.prog.info? 32).map (fun i => (i.zero, i.size, i.bytes)) = some (some (.agg #[.int .i64 0, .int .i64 0]), 2, 16) := by kernel_rfl
theorem senc_len (x : Int × Int) : (senc x).length = 2 := rfl
theorem senc_one (l : List (Int × Int)) : ∀ u ∈ l.flatMap senc, u.oneCell' = true := by
  intro u hu
  obtain ⟨x, _, hx⟩ := List.mem_flatMap.1 hu
  simp [senc] at hx
  rcases hx with rfl | rfl <;> rfl
set_option maxHeartbeats 2000000 in
set_option maxRecDepth 100000 in
theorem sclone_any (A : Option Addr) (c n : Nat) (l : List (Int × Int)) (w : World) (hln : l.length = n) (hz : A = none → c = 0) (hn : n ≤ 1099511627776) (hr : Rd senc 2 w w.heap.size A l) :
    Calls Try.prog 99 #[.slice A n c] w fun e w' => ∃ v, e = .returned v ∧ Own senc 2 w' w.heap.size 32 v l ∧ Below w.heap.size w w' := by
  obtain ⟨i0, hi0, hz0, hz1, hz2⟩ := info_parts sp_info
  have HL := Lib.hid hln
  have hu : ∀ (w : World) (a : Option Addr) (n c n' c' : Nat), (binOp .eql 103 (.slice a n c) (.slice none n' c')).run Try.prog w = .ok (.bool a.isNone) w := fun w a n c n' c' => Lib.run_eql_slice_nil w _ _ a n c n' c' Try.underlying103
  cases A with
  | none =>
    obtain rfl := hz rfl
    obtain rfl := rd_none hr
    obtain rfl : n = 0 := hln.symm
    go_enter Try.func99, Try.ntmps99
    go_wp2
    go_ret
    exact ⟨_, rfl, Own.nil _ _ _, (by repeat (first | with_reducible exact Below.refl _ _ | with_reducible assumption | (with_reducible exact Env.below (by assumption)) | (with_reducible refine below_new ?_ _) | (with_reducible refine below_drew ?_) | (with_reducible refine below_drewN ?_ _) | (with_reducible refine below_put ?_ ?_ _; rotate_left 1; (dsimp only; omega)) | (with_reducible refine below_then ?_ (by assumption))))⟩
  | some ad =>
    clear hln
    go_enter Try.func99, Try.ntmps99
    go_wp2_with (at_builtin; refine wpList_append_copy rfl (.tmp 5) (.tmp 6) 103 rfl w.heap.size 32 i0 (.agg #[.int .i64 0, .int .i64 0]) 2 16 Try.underlying103 hi0 hz0 hz1 hz2 rfl (by decide) senc senc_len w.heap.size 0 l rfl (own_empty (heap_alloc_new w (.cells #[] 32)) (Nat.le_refl _)) (some ad) n c rfl HL.out hz (rd_grown hr (by repeat (first | with_reducible exact Below.refl _ _ | with_reducible assumption | (with_reducible exact Env.below (by assumption)) | (with_reducible refine below_new ?_ _) | (with_reducible refine below_drew ?_) | (with_reducible refine below_drewN ?_ _) | (with_reducible refine below_put ?_ ?_ _; rotate_left 1; (dsimp only; omega)) | (with_reducible refine below_then ?_ (by assumption))))) (senc_one l) (by unfold maxLen; omega) (by omega) (by simp) ?_; intro g cap w2 hown2 hcap hg2 hb2)
    go_ret
    exact ⟨_, rfl, hown2, (below_new (Below.refl _ _) _).trans hb2⟩

/-- The checks of a time and a gap. -/
def sck (t g : Int) : Int := if g < 1 ∨ 1073741824 < g then 2 else if t < -1099511627776 ∨ 1099511627776 < t then 16 else 0
theorem scheck_any (t g : Int) (w : World) : Calls Try.prog 95 #[.int .i64 t, .int .i64 g] w fun e w' => e = .returned (.int .i64 (sck t g)) ∧ w = w' := by
  go_enter Try.func95, Try.ntmps95
  go_wp2
  all_goals (go_ret; exact ⟨ret_i64 (by unfold sck; grind), rfl⟩)
theorem rscheck_any (t g : Int) (w : World) : Calls Try.prog 61 #[.int .i64 t, .int .i64 g] w fun e w' => e = .returned (.int .i64 (sck t g)) ∧ w = w' := by
  go_enter Try.func61, Try.ntmps61
  go_wp2
  all_goals (go_ret; exact ⟨ret_i64 (by unfold sck; grind), rfl⟩)
theorem sgreat_any (n : Int) (w : World) : Calls Try.prog 64 #[.int .i64 n] w fun e w' => e = .returned (.bool (decide (100 < n ∧ n < 3999 ∨ 4002 < n))) ∧ w = w' := by
  go_enter Try.func64, Try.ntmps64
  go_wp2
  all_goals (go_ret; exact ⟨ret_bool (by first | (rw [decide_eq_decide]; omega) | (simp; omega) | grind), rfl⟩)
/-- A list of sessions. -/
def sok (x : Int × Int) : Prop := -1099511627776 ≤ x.1 ∧ x.1 ≤ 1099511627776 ∧ x.1 < x.2 ∧ x.2 ≤ 1100585369600
instance (x : Int × Int) : Decidable (sok x) := by unfold sok; infer_instance
/-- As far as the first k are looked at. -/
def srk (l : List (Int × Int)) (k : Nat) : Prop := (∀ i, i < k → sok (l.getD i (0, 0))) ∧ ∀ i, 0 < i → i < k → (l.getD (i - 1) (0, 0)).2 ≤ (l.getD i (0, 0)).1
def srt (l : List (Int × Int)) : Prop := l.length ≤ 4000 ∧ srk l l.length
end Go.Proofs.Ytffehibdeogjeaa

/- slices.SortFunc at the sessions' spans (chapter 15). Condition: fewer than 2^62 spans. -/
namespace Go.Proofs.Ytffehibdeogjeaa
open Go.RowKit Go.Sort Go.Shelf

theorem senc_len' (x : Int × Int) : (senc x).length = 2 := rfl
def cmpS (x y : Int × Int) : Int := cmpI x.1 y.1
theorem ltS (x y : Int × Int) : ltOf cmpS x y = decide (x.1 < y.1) := by
  unfold ltOf cmpS cmpI
  grind
theorem swoS : SWO (ltOf cmpS) where
  irrefl x := by rw [ltS]; simp
  trans x y z h1 h2 := by rw [ltS] at *; simp at *; omega
  ntrans x y z h1 h2 := by rw [ltS] at *; simp at *; omega
set_option maxHeartbeats 1000000 in
theorem cloS_any (x y : Int × Int) (W : World) : Calls Try.prog 127 #[.agg #[.int .i64 x.1, .int .i64 x.2], .agg #[.int .i64 y.1, .int .i64 y.2]] W fun e w' => e = .returned (.int .i64 (cmpS x y)) ∧ ∃ q os', w' = grow (W.drewN q) os' := by
  have hc := Lib.hid (show cmpI x.1 y.1 = cmpS x y from rfl)
  go_enter Try.func127, Try.ntmps127
  go_wp2_with (go_at_call 87; refine (cmp_any _ _ _).mono ?_; rintro e w' ⟨rfl, rfl⟩)
  go_ret
  exact ⟨by rw [hc.out]; rfl, 0, _, by rw [alloc_eq_grow, alloc_eq_grow, grow_grow]; rfl⟩
theorem sp_agg (w : World) : (isAgg 32).run Try.prog w = .ok true w := by kernel_rfl
theorem sp_size (w : World) : (Go.sizeOf 32).run Try.prog w = .ok 2 w := by kernel_rfl
set_option maxHeartbeats 2000000 in
/-- Spans sorted by their starts, in place. -/
theorem sortS_any (g n cap base : Nat) (l : List (Int × Int)) (w : World) (hl : l.length = n) (hn : n ≤ 1099511627776) (hown : Own senc 2 w base 32 (.slice (some ⟨g, 0, none⟩) n cap) l) :
    Calls Try.prog 126 #[.slice (some ⟨g, 0, none⟩) n cap, .func (.func 127) #[] #[]] w fun e w' => e = .returned (.tuple #[]) ∧
      ∃ l', l'.Perm l ∧ (l'.Pairwise fun a b => a.1 ≤ b.1) ∧ Own senc 2 w' base 32 (.slice (some ⟨g, 0, none⟩) n cap) l' ∧ w.grownBy w' (some g) := by
  have eg : ∀ args w, (callFunc 127 args).run Try.prog w = .ok (.enter 127 args) w := enters_of Try.func127 (by kernel_rfl) rfl
  have hcon := AnyQ.slices_SortFunc Try.sortSpan 2 sp_agg sp_size senc (fun _ => rfl) (fun x v hv => by simp [senc] at hv; rcases hv with rfl | rfl <;> rfl) cmpS swoS 127 #[] g 0 cap l.toArray w eg (fun _ _ _ _ x y => cloS_any x y _)
    (own_holds senc_len' hown hl.symm) (World.ownsRow.lt hown g rfl).2 (by simp; omega)
  change Calls Try.prog 126 _ _ _ at hcon
  rw [List.size_toArray, hl] at hcon
  refine hcon.mono ?_
  rintro e w' ⟨he, d', m, os, hp, hs, hw⟩
  have hsz : d'.size = n := by have := hp.1; simpa [hl] using this
  have hpl : d'.toList.Perm l := by
    have h := permIn_all (d := l.toArray) (d' := d') (by rw [List.size_toArray, hl]; exact hp)
    simpa using h
  have hso : d'.toList.Pairwise fun a b => ltOf cmpS b a = false := sortedIn_all (by rw [hsz]; exact hs)
  obtain ⟨o1, o2⟩ := own_sorted (l' := d'.toList) senc_len' hown hl.symm hpl.length_eq hw
  refine ⟨he, d'.toList, hpl, hso.imp (fun {a b} h => ?_), o1, o2⟩
  rw [ltS] at h
  simpa using h
end Go.Proofs.Ytffehibdeogjeaa

/- slices.SortFunc of no span: nothing turns. No condition. -/
namespace Go.Proofs.Ytffehibdeogjeaa
open Go.RowKit
theorem sortS_none (fv : Value) (w : World) : Calls Try.prog 126 #[.slice none 0 0, fv] w fun e w' => e = .returned (.tuple #[]) ∧ w' = w := by
  have h := AnyF.slices_SortFunc_none Try.sortSpan none 0 fv w
  exact h
end Go.Proofs.Ytffehibdeogjeaa

/- Rows of spans that the call itself made; an append that tells whether the row is a new one. No condition. -/
namespace Go.Proofs.Ytffehibdeogjeaa
open Go.RowKit

theorem sp_new (w : World) (x : Int × Int) (t : TypeId) (g : Nat) (hg : g = w.heap.size) : ∀ j u, ([x].flatMap senc)[j]? = some u → (w.alloc (.cells #[.int .i64 x.1, .int .i64 x.2] t)).cell? ((⟨g, 0, none⟩ : Addr).add j) = some u := by
  subst hg
  intro j u hj
  match j, hj with
  | 0, hj => simp [senc] at hj; subst hj; simp [Addr.add]
  | 1, hj => simp [senc] at hj; subst hj; simp [Addr.add]
theorem own_sp {w : World} {base : Nat} {e : TypeId} {g n cap : Nat} {l : List (Int × Int)} (h : Own senc 2 w base e (.slice (some ⟨g, 0, none⟩) n cap) l) {k : Nat} {x : Int × Int} (hx : l[k]? = some x) :
    w.cell? ⟨g, k * 2, none⟩ = some (.int .i64 x.1) ∧ w.cell? ⟨g, k * 2 + 1, none⟩ = some (.int .i64 x.2) ∧ g < w.heap.size := by
  obtain ⟨b, off, e, hb, c1, c2⟩ := span_cells (Own.rd senc_len h) hx
  rcases h.2 with ⟨h', _⟩ | ⟨g', cap', cur, h', _, hg, _⟩
  · cases h'
  · simp only [Option.some.injEq, Addr.mk.injEq, and_true] at e
    obtain ⟨rfl, rfl⟩ := e
    simp only [Nat.zero_add] at c1 c2
    exact ⟨c1, c2, hb⟩

theorem flat_set (v : Int) (x : Int × Int) : ∀ (l : List (Int × Int)) (i : Nat), l[i]? = some x → (l.flatMap senc).set (i * 2 + 1) (.int .i64 v) = (l.set i (x.1, v)).flatMap senc
  | [], i, h => by simp at h
  | y :: l, 0, h => by
    simp at h
    subst h
    simp [senc]
  | y :: l, i + 1, h => by
    rw [show (i + 1) * 2 + 1 = (i * 2 + 1) + 1 + 1 by omega, List.flatMap_cons, List.set_cons_succ, List.flatMap_cons, ← flat_set v x l i (by simpa using h)]
    simp [senc]
/-- The end of an element stored. -/
theorem own_end {w : World} {base : Nat} {e : TypeId} {g n cap : Nat} {l : List (Int × Int)} (h : Own senc 2 w base e (.slice (some ⟨g, 0, none⟩) n cap) l) (hn : n = l.length) {i : Nat} {x : Int × Int} (hx : l[i]? = some x) (v : Int) :
    Own senc 2 (w.setCell ⟨g, i * 2 + 1, none⟩ (.int .i64 v)) base e (.slice (some ⟨g, 0, none⟩) n cap) (l.set i (x.1, v)) ∧ w.grownBy (w.setCell ⟨g, i * 2 + 1, none⟩ (.int .i64 v)) (some g) := by
  subst hn
  obtain ⟨h1, h2⟩ := World.ownsRow.stored h (i * 2 + 1) (.int .i64 v)
  refine ⟨?_, h2⟩
  rw [flat_set v x l i hx] at h1
  unfold Own
  rw [List.length_set]
  exact h1

end Go.Proofs.Ytffehibdeogjeaa

/- The contracts of the sessions' right and of the reference's Right (chapter 15). Condition: lists of at most 2^40 spans. -/
namespace Go.Proofs.Ytffehibdeogjeaa
open Go.RowKit

open Classical in
noncomputable def srtB (l : List (Int × Int)) : Bool := decide (srt l)
theorem srk_succ {l : List (Int × Int)} {k : Nat} (h : srk l k) (h1 : sok (l.getD k (0, 0))) (h2 : 0 < k → (l.getD (k - 1) (0, 0)).2 ≤ (l.getD k (0, 0)).1) : srk l (k + 1) :=
  ⟨fun i hi => (by by_cases e : i = k; exact e ▸ h1; exact h.1 i (by omega)), fun i h0 hi => (by by_cases e : i = k; exact e ▸ h2 (e ▸ h0); exact h.2 i h0 (by omega))⟩
open Classical in
theorem srt_false {l : List (Int × Int)} {k : Nat} (hk : k < l.length) (h : ¬ (sok (l.getD k (0, 0)) ∧ (0 < k → (l.getD (k - 1) (0, 0)).2 ≤ (l.getD k (0, 0)).1))) : srtB l = false := by
  unfold srtB
  exact decide_eq_false (fun ⟨_, h1, h2⟩ => h ⟨h1 k hk, fun h0 => h2 k h0 hk⟩)
open Classical in
theorem srt_many {l : List (Int × Int)} (h : 4000 < l.length) : srtB l = false := by
  unfold srtB
  exact decide_eq_false (fun ⟨h1, _⟩ => absurd h (by omega))
open Classical in
theorem srt_all {l : List (Int × Int)} (h : l.length ≤ 4000) (h2 : srk l l.length) : srtB l = true := by
  unfold srtB
  exact decide_eq_true ⟨h, h2⟩

set_option maxHeartbeats 8000000 in
set_option maxRecDepth 100000 in
theorem sright_any (A : Option Addr) (c n : Nat) (l : List (Int × Int)) (w : World) (hln : l.length = n) (hn : n ≤ 1099511627776) (hr : Rd senc 2 w w.heap.size A l) :
    Calls Try.prog 97 #[.slice A n c] w fun e w' => e = .returned (.bool (srtB l)) ∧ Below w.heap.size w w' := by
  have HL := Lib.hid hln
  by_cases hm : 4000 < n
  · have b0 : decide ((4000 : Int) < (n : Int)) = true := by simp; omega
    have b0' : decide (4000 < n) = true := by simp [hm]
    have HB := Lib.hid (srt_many (l := l) (by omega))
    clear hln hm
    go_enter Try.func97, Try.ntmps97
    go_wp2
    go_ret
    exact ⟨ret_bool HB.out.symm, (by repeat (first | with_reducible exact Below.refl _ _ | with_reducible assumption | (with_reducible exact Env.below (by assumption)) | (with_reducible refine below_new ?_ _) | (with_reducible refine below_drew ?_) | (with_reducible refine below_drewN ?_ _) | (with_reducible refine below_put ?_ ?_ _; rotate_left 1; (dsimp only; omega)) | (with_reducible refine below_then ?_ (by assumption))))⟩
  · have b0 : decide ((4000 : Int) < (n : Int)) = false := by simp; omega
    have b0' : decide (4000 < n) = false := by simp [hm]
    clear hln
    go_enter Try.func97, Try.ntmps97
    go_wp2_with fail
    go_loopw [10] (fun i wr => ∃ k : Nat, k ≤ n ∧ i = .int .i64 k ∧ srk l k ∧ Below w.heap.size w wr) (fun i _ => n - (intOf i).toNat)
    case atStart => exact ⟨0, Nat.zero_le _, rfl, ⟨fun i hi => by omega, fun i _ hi => by omega⟩, Below.refl _ _⟩
    case round =>
      obtain ⟨k, hk, rfl, hs, hb⟩ := hrel
      have HS := Lib.hid hs
      clear hs
      by_cases h1 : k < n
      · have d1 : decide ((k : Int) < (n : Int)) = true := by simp; omega
        have d1' : decide (k < n) = true := by simp [h1]
        have i1 : (0 : Int) ≤ (k : Int) := by omega
        have i2 : (k : Int) < (n : Int) := by omega
        obtain ⟨x, hx⟩ : ∃ x, l[k]? = some x := ⟨_, List.getElem?_eq_getElem (by rw [HL.out]; exact h1)⟩
        obtain ⟨b, off, rfl, hbB, f1, f2⟩ := span_cells hr hx
        have g1 := (hb.cell (p := ⟨b, off + k * 2, none⟩) hbB).trans f1
        have g2 := (hb.cell (p := ⟨b, off + k * 2 + 1, none⟩) hbB).trans f2
        have hbw : b < wr.heap.size := Nat.lt_of_lt_of_le hbB hb.size
        have GX := Lib.hid (getD_some (d := ((0, 0) : Int × Int)) hx)
        obtain ⟨x1, x2⟩ := x
        dsimp only at g1 g2
        clear hx f1 f2
        have bad : ¬ sok (x1, x2) → srtB l = false := fun h => srt_false (k := k) (by rw [HL.out]; exact h1) (fun h2 => h (by have := h2.1; rwa [GX.out] at this))
        have HBAD := Lib.hid bad
        clear bad
        by_cases c1 : x1 < -1099511627776
        · have e1 : decide (x1 < -1099511627776) = true := by simp [c1]
          go_wp2_with fail
          (refine wp_region_quiet_lit (by kernel_rfl) (by kernel_rfl) ?_; (repeat (any_goals (first | go_big_quiet_step (fail) | quiet_step (fail)))); all_goals (refine wpQuiet_nil ?_; intro _ hw'; obtain ⟨nq, hw''⟩ := hw'; subst hw''))
          go_wp2
          go_ret
          exact ⟨ret_bool (HBAD.out (by unfold sok; simp only; omega)).symm, (by repeat (first | with_reducible exact Below.refl _ _ | with_reducible assumption | (with_reducible exact Env.below (by assumption)) | (with_reducible refine below_new ?_ _) | (with_reducible refine below_drew ?_) | (with_reducible refine below_drewN ?_ _) | (with_reducible refine below_put ?_ ?_ _; rotate_left 1; (dsimp only; omega)) | (with_reducible refine below_then ?_ (by assumption))))⟩
        · have e1 : decide (x1 < -1099511627776) = false := by simp; omega
          by_cases c2 : 1099511627776 < x1
          · have e2 : decide (1099511627776 < x1) = true := by simp [c2]
            go_wp2_with fail
            (refine wp_region_quiet_lit (by kernel_rfl) (by kernel_rfl) ?_; (repeat (any_goals (first | go_big_quiet_step (fail) | quiet_step (fail)))); all_goals (refine wpQuiet_nil ?_; intro _ hw'; obtain ⟨nq, hw''⟩ := hw'; subst hw''))
            go_wp2
            go_ret
            exact ⟨ret_bool (HBAD.out (by unfold sok; simp only; omega)).symm, (by repeat (first | with_reducible exact Below.refl _ _ | with_reducible assumption | (with_reducible exact Env.below (by assumption)) | (with_reducible refine below_new ?_ _) | (with_reducible refine below_drew ?_) | (with_reducible refine below_drewN ?_ _) | (with_reducible refine below_put ?_ ?_ _; rotate_left 1; (dsimp only; omega)) | (with_reducible refine below_then ?_ (by assumption))))⟩
          · have e2 : decide (1099511627776 < x1) = false := by simp; omega
            by_cases c3 : x2 ≤ x1
            · have e3 : decide (x2 ≤ x1) = true := by simp [c3]
              go_wp2_with fail
              (refine wp_region_quiet_lit (by kernel_rfl) (by kernel_rfl) ?_; (repeat (any_goals (first | go_big_quiet_step (fail) | quiet_step (fail)))); all_goals (refine wpQuiet_nil ?_; intro _ hw'; obtain ⟨nq, hw''⟩ := hw'; subst hw''))
              go_wp2
              go_ret
              exact ⟨ret_bool (HBAD.out (by unfold sok; simp only; omega)).symm, (by repeat (first | with_reducible exact Below.refl _ _ | with_reducible assumption | (with_reducible exact Env.below (by assumption)) | (with_reducible refine below_new ?_ _) | (with_reducible refine below_drew ?_) | (with_reducible refine below_drewN ?_ _) | (with_reducible refine below_put ?_ ?_ _; rotate_left 1; (dsimp only; omega)) | (with_reducible refine below_then ?_ (by assumption))))⟩
            · have e3 : decide (x2 ≤ x1) = false := by simp; omega
              by_cases c4 : 1100585369600 < x2
              · have e4 : decide (1100585369600 < x2) = true := by simp [c4]
                go_wp2_with fail
                (refine wp_region_quiet_lit (by kernel_rfl) (by kernel_rfl) ?_; (repeat (any_goals (first | go_big_quiet_step (fail) | quiet_step (fail)))); all_goals (refine wpQuiet_nil ?_; intro _ hw'; obtain ⟨nq, hw''⟩ := hw'; subst hw''))
                go_wp2
                go_ret
                exact ⟨ret_bool (HBAD.out (by unfold sok; simp only; omega)).symm, (by repeat (first | with_reducible exact Below.refl _ _ | with_reducible assumption | (with_reducible exact Env.below (by assumption)) | (with_reducible refine below_new ?_ _) | (with_reducible refine below_drew ?_) | (with_reducible refine below_drewN ?_ _) | (with_reducible refine below_put ?_ ?_ _; rotate_left 1; (dsimp only; omega)) | (with_reducible refine below_then ?_ (by assumption))))⟩
              · have e4 : decide (1100585369600 < x2) = false := by simp; omega
                have hok : sok (x1, x2) := by unfold sok; simp only; omega
                have HOK := Lib.hid hok
                clear hok
                by_cases h0 : k = 0
                · have e5 : decide ((0 : Int) < (k : Int)) = false := by simp; omega
                  have e5' : decide (0 < k) = false := by simp; omega
                  have hnx : srk l (k + 1) := srk_succ HS.out (by rw [GX.out]; exact HOK.out) (fun h => by omega)
                  have HNX := Lib.hid hnx
                  clear hnx h0
                  go_wp2_with fail
                  (refine wp_region_quiet_lit (by kernel_rfl) (by kernel_rfl) ?_; (repeat (any_goals (first | go_big_quiet_step (fail) | quiet_step (fail)))); all_goals (refine wpQuiet_nil ?_; intro _ hw'; obtain ⟨nq, hw''⟩ := hw'; subst hw''))
                  go_wp2
                  go_roundw
                  case rel => exact ⟨k + 1, by omega, by go_num, HNX.out, (by repeat (first | with_reducible exact Below.refl _ _ | with_reducible assumption | (with_reducible exact Env.below (by assumption)) | (with_reducible refine below_new ?_ _) | (with_reducible refine below_drew ?_) | (with_reducible refine below_drewN ?_ _) | (with_reducible refine below_put ?_ ?_ _; rotate_left 1; (dsimp only; omega)) | (with_reducible refine below_then ?_ (by assumption))))⟩
                  case measure => simp [intOf]; omega
                · have e5 : decide ((0 : Int) < (k : Int)) = true := by simp; omega
                  have e5' : decide (0 < k) = true := by simp; omega
                  obtain ⟨p, hp⟩ : ∃ p, k = p + 1 := ⟨k - 1, by omega⟩
                  have e6 : IntKind.i64.wrap ((k : Int) - 1) = (p : Int) := by rw [IntWalk.i64_in _ (by omega)]; omega
                  have i3 : (0 : Int) ≤ (p : Int) := by omega
                  have i4 : (p : Int) < (n : Int) := by omega
                  obtain ⟨y, hy⟩ : ∃ y, l[p]? = some y := ⟨_, List.getElem?_eq_getElem (by rw [HL.out]; omega)⟩
                  obtain ⟨b', off', e', _, f3, f4⟩ := span_cells hr hy
                  simp only [Option.some.injEq, Addr.mk.injEq, and_true] at e'
                  obtain ⟨rfl, rfl⟩ := e'
                  have g4 := (hb.cell (p := ⟨b, off + p * 2 + 1, none⟩) hbB).trans f4
                  have GY := Lib.hid (getD_some (d := ((0, 0) : Int × Int)) hy)
                  obtain ⟨y1, y2⟩ := y
                  dsimp only at g4
                  have HP := Lib.hid hp
                  clear hy f3 f4 hp
                  by_cases c5 : x1 < y2
                  · have e7 : decide (x1 < y2) = true := by simp [c5]
                    have hf : srtB l = false := srt_false (k := k) (by rw [HL.out]; exact h1) (fun h2 => by
                      have := h2.2 (by have := HP.out; omega)
                      rw [GX.out, show k - 1 = p by have := HP.out; omega, GY.out] at this
                      simp only at this
                      omega)
                    have HF := Lib.hid hf
                    clear hf
                    go_wp2_with fail
                    (refine wp_region_quiet_lit (by kernel_rfl) (by kernel_rfl) ?_; (repeat (any_goals (first | go_big_quiet_step (fail) | quiet_step (fail)))); all_goals (refine wpQuiet_nil ?_; intro _ hw'; obtain ⟨nq, hw''⟩ := hw'; subst hw''))
                    go_wp2
                    go_ret
                    exact ⟨ret_bool HF.out.symm, (by repeat (first | with_reducible exact Below.refl _ _ | with_reducible assumption | (with_reducible exact Env.below (by assumption)) | (with_reducible refine below_new ?_ _) | (with_reducible refine below_drew ?_) | (with_reducible refine below_drewN ?_ _) | (with_reducible refine below_put ?_ ?_ _; rotate_left 1; (dsimp only; omega)) | (with_reducible refine below_then ?_ (by assumption))))⟩
                  · have e7 : decide (x1 < y2) = false := by simp; omega
                    have hnx : srk l (k + 1) := srk_succ HS.out (by rw [GX.out]; exact HOK.out) (fun h => by
                      rw [GX.out, show k - 1 = p by have := HP.out; omega, GY.out]
                      simp only
                      omega)
                    have HNX := Lib.hid hnx
                    clear hnx
                    go_wp2_with fail
                    (refine wp_region_quiet_lit (by kernel_rfl) (by kernel_rfl) ?_; (repeat (any_goals (first | go_big_quiet_step (fail) | quiet_step (fail)))); all_goals (refine wpQuiet_nil ?_; intro _ hw'; obtain ⟨nq, hw''⟩ := hw'; subst hw''))
                    go_wp2
                    go_roundw
                    case rel => exact ⟨k + 1, by omega, by go_num, HNX.out, (by repeat (first | with_reducible exact Below.refl _ _ | with_reducible assumption | (with_reducible exact Env.below (by assumption)) | (with_reducible refine below_new ?_ _) | (with_reducible refine below_drew ?_) | (with_reducible refine below_drewN ?_ _) | (with_reducible refine below_put ?_ ?_ _; rotate_left 1; (dsimp only; omega)) | (with_reducible refine below_then ?_ (by assumption))))⟩
                    case measure => simp [intOf]; omega
      · have d1 : decide ((k : Int) < (n : Int)) = false := by simp; omega
        have d1' : decide (k < n) = false := by simp [h1]
        have hkn : k = n := by omega
        have hall : srtB l = true := srt_all (by rw [HL.out]; omega) (by rw [HL.out, ← hkn]; exact HS.out)
        have HA := Lib.hid hall
        clear hall hkn
        go_wp2
        go_ret
        exact ⟨ret_bool HA.out.symm, hb⟩
set_option maxHeartbeats 8000000 in
set_option maxRecDepth 100000 in
theorem rsright_any (A : Option Addr) (c n : Nat) (l : List (Int × Int)) (w : World) (hln : l.length = n) (hn : n ≤ 1099511627776) (hr : Rd senc 2 w w.heap.size A l) :
    Calls Try.prog 60 #[.slice A n c] w fun e w' => e = .returned (.bool (srtB l)) ∧ Below w.heap.size w w' := by
  have HL := Lib.hid hln
  clear hln
  go_enter Try.func60, Try.ntmps60
  go_wp2_with fail
  go_loopw [3] (fun i wr => ∃ k : Nat, k ≤ n ∧ i = .int .i64 k ∧ srk l k ∧ Below w.heap.size w wr) (fun i _ => n - (intOf i).toNat)
  case atStart => exact ⟨0, Nat.zero_le _, rfl, ⟨fun i hi => by omega, fun i _ hi => by omega⟩, Below.refl _ _⟩
  case round =>
    obtain ⟨k, hk, rfl, hs, hb⟩ := hrel
    have HS := Lib.hid hs
    clear hs
    by_cases h1 : k < n
    · have d1 : decide ((k : Int) < (n : Int)) = true := by simp; omega
      have d1' : decide (k < n) = true := by simp [h1]
      have i1 : (0 : Int) ≤ (k : Int) := by omega
      have i2 : (k : Int) < (n : Int) := by omega
      obtain ⟨x, hx⟩ : ∃ x, l[k]? = some x := ⟨_, List.getElem?_eq_getElem (by rw [HL.out]; exact h1)⟩
      obtain ⟨b, off, rfl, hbB, f1, f2⟩ := span_cells hr hx
      have g1 := (hb.cell (p := ⟨b, off + k * 2, none⟩) hbB).trans f1
      have g2 := (hb.cell (p := ⟨b, off + k * 2 + 1, none⟩) hbB).trans f2
      have hbw : b < wr.heap.size := Nat.lt_of_lt_of_le hbB hb.size
      have GX := Lib.hid (getD_some (d := ((0, 0) : Int × Int)) hx)
      obtain ⟨x1, x2⟩ := x
      dsimp only at g1 g2
      clear hx f1 f2
      have bad : ¬ sok (x1, x2) → srtB l = false := fun h => srt_false (k := k) (by rw [HL.out]; exact h1) (fun h2 => h (by have := h2.1; rwa [GX.out] at this))
      have HBAD := Lib.hid bad
      clear bad
      by_cases c1 : x1 < -1099511627776
      · have e1 : decide (x1 < -1099511627776) = true := by simp [c1]
        go_wp2_with fail
        (refine wp_region_quiet_lit (by kernel_rfl) (by kernel_rfl) ?_; (repeat (any_goals (first | go_big_quiet_step (fail) | quiet_step (fail)))); all_goals (refine wpQuiet_nil ?_; intro _ hw'; obtain ⟨nq, hw''⟩ := hw'; subst hw''))
        go_wp2
        go_ret
        exact ⟨ret_bool (HBAD.out (by unfold sok; simp only; omega)).symm, (by repeat (first | with_reducible exact Below.refl _ _ | with_reducible assumption | (with_reducible exact Env.below (by assumption)) | (with_reducible refine below_new ?_ _) | (with_reducible refine below_drew ?_) | (with_reducible refine below_drewN ?_ _) | (with_reducible refine below_put ?_ ?_ _; rotate_left 1; (dsimp only; omega)) | (with_reducible refine below_then ?_ (by assumption))))⟩
      · have e1 : decide (x1 < -1099511627776) = false := by simp; omega
        by_cases c2 : 1099511627776 < x1
        · have e2 : decide (1099511627776 < x1) = true := by simp [c2]
          go_wp2_with fail
          (refine wp_region_quiet_lit (by kernel_rfl) (by kernel_rfl) ?_; (repeat (any_goals (first | go_big_quiet_step (fail) | quiet_step (fail)))); all_goals (refine wpQuiet_nil ?_; intro _ hw'; obtain ⟨nq, hw''⟩ := hw'; subst hw''))
          go_wp2
          go_ret
          exact ⟨ret_bool (HBAD.out (by unfold sok; simp only; omega)).symm, (by repeat (first | with_reducible exact Below.refl _ _ | with_reducible assumption | (with_reducible exact Env.below (by assumption)) | (with_reducible refine below_new ?_ _) | (with_reducible refine below_drew ?_) | (with_reducible refine below_drewN ?_ _) | (with_reducible refine below_put ?_ ?_ _; rotate_left 1; (dsimp only; omega)) | (with_reducible refine below_then ?_ (by assumption))))⟩
        · have e2 : decide (1099511627776 < x1) = false := by simp; omega
          by_cases c3 : x2 ≤ x1
          · have e3 : decide (x2 ≤ x1) = true := by simp [c3]
            go_wp2_with fail
            (refine wp_region_quiet_lit (by kernel_rfl) (by kernel_rfl) ?_; (repeat (any_goals (first | go_big_quiet_step (fail) | quiet_step (fail)))); all_goals (refine wpQuiet_nil ?_; intro _ hw'; obtain ⟨nq, hw''⟩ := hw'; subst hw''))
            go_wp2
            go_ret
            exact ⟨ret_bool (HBAD.out (by unfold sok; simp only; omega)).symm, (by repeat (first | with_reducible exact Below.refl _ _ | with_reducible assumption | (with_reducible exact Env.below (by assumption)) | (with_reducible refine below_new ?_ _) | (with_reducible refine below_drew ?_) | (with_reducible refine below_drewN ?_ _) | (with_reducible refine below_put ?_ ?_ _; rotate_left 1; (dsimp only; omega)) | (with_reducible refine below_then ?_ (by assumption))))⟩
          · have e3 : decide (x2 ≤ x1) = false := by simp; omega
            by_cases c4 : 1100585369600 < x2
            · have e4 : decide (1100585369600 < x2) = true := by simp [c4]
              go_wp2_with fail
              (refine wp_region_quiet_lit (by kernel_rfl) (by kernel_rfl) ?_; (repeat (any_goals (first | go_big_quiet_step (fail) | quiet_step (fail)))); all_goals (refine wpQuiet_nil ?_; intro _ hw'; obtain ⟨nq, hw''⟩ := hw'; subst hw''))
              go_wp2
              go_ret
              exact ⟨ret_bool (HBAD.out (by unfold sok; simp only; omega)).symm, (by repeat (first | with_reducible exact Below.refl _ _ | with_reducible assumption | (with_reducible exact Env.below (by assumption)) | (with_reducible refine below_new ?_ _) | (with_reducible refine below_drew ?_) | (with_reducible refine below_drewN ?_ _) | (with_reducible refine below_put ?_ ?_ _; rotate_left 1; (dsimp only; omega)) | (with_reducible refine below_then ?_ (by assumption))))⟩
            · have e4 : decide (1100585369600 < x2) = false := by simp; omega
              have hok : sok (x1, x2) := by unfold sok; simp only; omega
              have HOK := Lib.hid hok
              clear hok
              by_cases h0 : k = 0
              · have e5 : decide ((0 : Int) < (k : Int)) = false := by simp; omega
                have e5' : decide (0 < k) = false := by simp; omega
                have hnx : srk l (k + 1) := srk_succ HS.out (by rw [GX.out]; exact HOK.out) (fun h => by omega)
                have HNX := Lib.hid hnx
                clear hnx h0
                go_wp2_with fail
                (refine wp_region_quiet_lit (by kernel_rfl) (by kernel_rfl) ?_; (repeat (any_goals (first | go_big_quiet_step (fail) | quiet_step (fail)))); all_goals (refine wpQuiet_nil ?_; intro _ hw'; obtain ⟨nq, hw''⟩ := hw'; subst hw''))
                go_wp2
                go_roundw
                case rel => exact ⟨k + 1, by omega, by go_num, HNX.out, (by repeat (first | with_reducible exact Below.refl _ _ | with_reducible assumption | (with_reducible exact Env.below (by assumption)) | (with_reducible refine below_new ?_ _) | (with_reducible refine below_drew ?_) | (with_reducible refine below_drewN ?_ _) | (with_reducible refine below_put ?_ ?_ _; rotate_left 1; (dsimp only; omega)) | (with_reducible refine below_then ?_ (by assumption))))⟩
                case measure => simp [intOf]; omega
              · have e5 : decide ((0 : Int) < (k : Int)) = true := by simp; omega
                have e5' : decide (0 < k) = true := by simp; omega
                obtain ⟨p, hp⟩ : ∃ p, k = p + 1 := ⟨k - 1, by omega⟩
                have e6 : IntKind.i64.wrap ((k : Int) - 1) = (p : Int) := by rw [IntWalk.i64_in _ (by omega)]; omega
                have i3 : (0 : Int) ≤ (p : Int) := by omega
                have i4 : (p : Int) < (n : Int) := by omega
                obtain ⟨y, hy⟩ : ∃ y, l[p]? = some y := ⟨_, List.getElem?_eq_getElem (by rw [HL.out]; omega)⟩
                obtain ⟨b', off', e', _, f3, f4⟩ := span_cells hr hy
                simp only [Option.some.injEq, Addr.mk.injEq, and_true] at e'
                obtain ⟨rfl, rfl⟩ := e'
                have g4 := (hb.cell (p := ⟨b, off + p * 2 + 1, none⟩) hbB).trans f4
                have GY := Lib.hid (getD_some (d := ((0, 0) : Int × Int)) hy)
                obtain ⟨y1, y2⟩ := y
                dsimp only at g4
                have HP := Lib.hid hp
                clear hy f3 f4 hp
                by_cases c5 : x1 < y2
                · have e7 : decide (x1 < y2) = true := by simp [c5]
                  have hf : srtB l = false := srt_false (k := k) (by rw [HL.out]; exact h1) (fun h2 => by
                    have := h2.2 (by have := HP.out; omega)
                    rw [GX.out, show k - 1 = p by have := HP.out; omega, GY.out] at this
                    simp only at this
                    omega)
                  have HF := Lib.hid hf
                  clear hf
                  go_wp2_with fail
                  (refine wp_region_quiet_lit (by kernel_rfl) (by kernel_rfl) ?_; (repeat (any_goals (first | go_big_quiet_step (fail) | quiet_step (fail)))); all_goals (refine wpQuiet_nil ?_; intro _ hw'; obtain ⟨nq, hw''⟩ := hw'; subst hw''))
                  go_wp2
                  go_ret
                  exact ⟨ret_bool HF.out.symm, (by repeat (first | with_reducible exact Below.refl _ _ | with_reducible assumption | (with_reducible exact Env.below (by assumption)) | (with_reducible refine below_new ?_ _) | (with_reducible refine below_drew ?_) | (with_reducible refine below_drewN ?_ _) | (with_reducible refine below_put ?_ ?_ _; rotate_left 1; (dsimp only; omega)) | (with_reducible refine below_then ?_ (by assumption))))⟩
                · have e7 : decide (x1 < y2) = false := by simp; omega
                  have hnx : srk l (k + 1) := srk_succ HS.out (by rw [GX.out]; exact HOK.out) (fun h => by
                    rw [GX.out, show k - 1 = p by have := HP.out; omega, GY.out]
                    simp only
                    omega)
                  have HNX := Lib.hid hnx
                  clear hnx
                  go_wp2_with fail
                  (refine wp_region_quiet_lit (by kernel_rfl) (by kernel_rfl) ?_; (repeat (any_goals (first | go_big_quiet_step (fail) | quiet_step (fail)))); all_goals (refine wpQuiet_nil ?_; intro _ hw'; obtain ⟨nq, hw''⟩ := hw'; subst hw''))
                  go_wp2
                  go_roundw
                  case rel => exact ⟨k + 1, by omega, by go_num, HNX.out, (by repeat (first | with_reducible exact Below.refl _ _ | with_reducible assumption | (with_reducible exact Env.below (by assumption)) | (with_reducible refine below_new ?_ _) | (with_reducible refine below_drew ?_) | (with_reducible refine below_drewN ?_ _) | (with_reducible refine below_put ?_ ?_ _; rotate_left 1; (dsimp only; omega)) | (with_reducible refine below_then ?_ (by assumption))))⟩
                  case measure => simp [intOf]; omega
    · have d1 : decide ((k : Int) < (n : Int)) = false := by simp; omega
      have d1' : decide (k < n) = false := by simp [h1]
      have hkn : k = n := by omega
      by_cases hm : 4000 < n
      · have b0 : decide ((n : Int) ≤ (4000 : Int)) = false := by simp; omega
        have b0' : decide (n ≤ 4000) = false := by simp; omega
        have HB := Lib.hid (srt_many (l := l) (by rw [HL.out]; exact hm))
        go_wp2
        go_ret
        exact ⟨ret_bool HB.out.symm, hb⟩
      · have b0 : decide ((n : Int) ≤ (4000 : Int)) = true := by simp; omega
        have b0' : decide (n ≤ 4000) = true := by simp; omega
        have HA := Lib.hid (srt_all (l := l) (by rw [HL.out]; omega) (by rw [HL.out, ← hkn]; exact HS.out))
        clear hkn
        go_wp2
        go_ret
        exact ⟨ret_bool HA.out.symm, hb⟩
end Go.Proofs.Ytffehibdeogjeaa
