/- Lemmas and contracts for the statement, joined into one text: HeapPlain, SortPlain, SessPlain. The conditions of each stand at its head. -/
import Derived.Lib.Hide
namespace Go.Proofs.YtnljihjhmgpcoaaGreat
/-- A strict total order. -/
structure STO {α : Type} (lt : α → α → Bool) : Prop where
 irr : ∀ a, lt a a = false
 tr : ∀ a b c, lt a b = true → lt b c = true → lt a c = true
 tri : ∀ a b, lt a b = false → lt b a = false → a = b
section
variable {α : Type} {lt : α → α → Bool}
/-- 'not less' is transitive. -/
theorem STO.le (h : STO lt) {a b c : α} (hab : lt a b = false) (hbc : lt b c = false) : lt a c = false := by
 cases hac : lt a c with
 | false => rfl
 | true =>
  cases hba : lt b a with
  | true => rw [h.tr _ _ _ hba hac] at hbc; cases hbc
  | false => have := h.tri _ _ hab hba; subst this; rw [hac] at hbc; cases hbc
/-- Two elements exchanged. -/
def sw (d : α) (l : List α) (i j : Nat) : List α := (l.set i (l.getD j d)).set j (l.getD i d)
def up (lt : α → α → Bool) (d : α) : Nat → List α → Nat → List α
 | 0, l, _ => l
 | n + 1, l, i => if 0 < i ∧ lt (l.getD i d) (l.getD ((i - 1) / 2) d) = true then up lt d n (sw d l i ((i - 1) / 2)) ((i - 1) / 2) else l
/-- The lesser child. -/
def chld (lt : α → α → Bool) (d : α) (l : List α) (i : Nat) : Nat := if 2 * i + 2 < l.length ∧ lt (l.getD (2 * i + 2) d) (l.getD (2 * i + 1) d) = true then 2 * i + 2 else 2 * i + 1
def dn (lt : α → α → Bool) (d : α) : Nat → List α → Nat → List α
 | 0, l, _ => l
 | n + 1, l, i => if 2 * i + 1 < l.length ∧ lt (l.getD (chld lt d l i) d) (l.getD i d) = true then dn lt d n (sw d l i (chld lt d l i)) (chld lt d l i) else l
end
section
variable {α : Type} {lt : α → α → Bool}
end
/-- What spans cover, on a line of half steps. -/
def Cov (l : List (Int × Int)) (z : Int) : Prop := ∃ s ∈ l, 2 * s.1 < z ∧ z < 2 * s.2
/-- Sessions: none is empty, each one ends ahead of the next. -/
def Good : List (Int × Int) → Prop
 | [] => True
 | s :: l => s.1 < s.2 ∧ (∀ x ∈ l, s.2 ≤ x.1) ∧ Good l
theorem cov_nil (z : Int) : ¬ Cov [] z := by rintro ⟨s, h, _⟩; cases h
theorem cov_cons (s : Int × Int) (l : List (Int × Int)) (z : Int) : Cov (s :: l) z ↔ (2 * s.1 < z ∧ z < 2 * s.2) ∨ Cov l z := by
 unfold Cov
 simp only [List.mem_cons, exists_eq_or_imp]
theorem cov_append (l m : List (Int × Int)) (z : Int) : Cov (l ++ m) z ↔ Cov l z ∨ Cov m z := by
 unfold Cov
 simp only [List.mem_append]
 constructor
 ·rintro ⟨s, h | h, h2⟩
  ·exact .inl ⟨s, h, h2⟩
  ·exact .inr ⟨s, h, h2⟩
 ·rintro (⟨s, h, h2⟩ | ⟨s, h, h2⟩)
  ·exact ⟨s, .inl h, h2⟩
  ·exact ⟨s, .inr h, h2⟩
theorem cov_perm {l m : List (Int × Int)} (h : l.Perm m) (z : Int) : Cov l z ↔ Cov m z := by
 unfold Cov
 simp only [h.mem_iff]
theorem good_mem : ∀ {l : List (Int × Int)}, Good l → ∀ x ∈ l, x.1 < x.2
 | [], _, _, h => by cases h
 | _ :: _, ⟨h1, _, h3⟩, x, h => by
  rcases List.mem_cons.1 h with rfl | h
  ·exact h1
  ·exact good_mem h3 x h
theorem good_append : ∀ {l m : List (Int × Int)}, Good (l ++ m) ↔ Good l ∧ Good m ∧ ∀ x ∈ l, ∀ y ∈ m, x.2 ≤ y.1
 | [], m => by simp [Good]
 | s :: l, m => by
  rw [List.cons_append]
  show (s.1 < s.2 ∧ (∀ x ∈ l ++ m, s.2 ≤ x.1) ∧ Good (l ++ m)) ↔ (s.1 < s.2 ∧ (∀ x ∈ l, s.2 ≤ x.1) ∧ Good l) ∧ Good m ∧ ∀ x ∈ s :: l, ∀ y ∈ m, x.2 ≤ y.1
  rw [good_append]
  constructor
  ·rintro ⟨h1, h2, h3, h4, h5⟩
   refine ⟨⟨h1, fun x hx => h2 x (List.mem_append_left _ hx), h3⟩, h4, fun x hx y hy => ?_⟩
   rcases List.mem_cons.1 hx with rfl | hx
   ·exact h2 y (List.mem_append_right _ hy)
   ·exact h5 x hx y hy
  ·rintro ⟨⟨h1, h2, h3⟩, h4, h5⟩
   refine ⟨h1, fun x hx => ?_, h3, h4, fun x hx => h5 x (List.mem_cons_of_mem _ hx)⟩
   rcases List.mem_append.1 hx with h | h
   ·exact h2 x h
   ·exact h5 s (List.mem_cons_self) x h
/-- What is covered fixes sessions. -/
theorem good_unique : ∀ {l m : List (Int × Int)}, Good l → Good m → (∀ z, Cov l z ↔ Cov m z) → l = m
 | [], [], _, _, _ => rfl
 | [], b :: m, _, ⟨h1, _, _⟩, h => absurd ((h (2 * b.1 + 1)).2 ⟨b, List.mem_cons_self, by omega, by omega⟩) (cov_nil _)
 | a :: l, [], ⟨h1, _, _⟩, _, h => absurd ((h (2 * a.1 + 1)).1 ⟨a, List.mem_cons_self, by omega, by omega⟩) (cov_nil _)
 | a :: l, b :: m, ha, hb, h => by
  have ha0 := ha
  have hb0 := hb
  obtain ⟨a1, a2, a3⟩ := ha
  obtain ⟨b1, b2, b3⟩ := hb
  have first : ∀ {x y : Int × Int} {p q : List (Int × Int)}, Good (x :: p) → Good (y :: q) → (∀ z, Cov (x :: p) z → Cov (y :: q) z) → y.1 ≤ x.1 := by
   intro x y p q hx hy hz
   obtain ⟨s, hs, s1, s2⟩ := hz (2 * x.1 + 1) ⟨x, List.mem_cons_self, by omega, by have := hx.1; omega⟩
   rcases List.mem_cons.1 hs with rfl | hs
   ·omega
   ·have := hy.2.1 s hs
    have := hy.1
    omega
  have e1 : a.1 = b.1 := Int.le_antisymm (first hb0 ha0 (fun z => (h z).2)) (first ha0 hb0 (fun z => (h z).1))
  have last : ∀ {x y : Int × Int} {p q : List (Int × Int)}, Good (x :: p) → Good (y :: q) → x.1 = y.1 → (∀ z, Cov (y :: q) z → Cov (x :: p) z) → y.2 ≤ x.2 := by
   intro x y p q hx hy he hz
   rcases Int.lt_or_le x.2 y.2 with hlt | hle
   ·exfalso
    obtain ⟨s, hs, s1, s2⟩ := hz (2 * x.2) ⟨y, List.mem_cons_self, by have := hx.1; omega, by omega⟩
    rcases List.mem_cons.1 hs with rfl | hs
    ·omega
    ·have := hx.2.1 s hs
     omega
   ·exact hle
  have e2 : a.2 = b.2 := Int.le_antisymm (last hb0 ha0 e1.symm (fun z => (h z).1)) (last ha0 hb0 e1 (fun z => (h z).2))
  obtain rfl : a = b := by
   obtain ⟨x, y⟩ := a
   obtain ⟨u, v⟩ := b
   simp only at e1 e2
   rw [e1, e2]
  have tails : ∀ {p q : List (Int × Int)}, Good (a :: p) → (∀ z, Cov (a :: p) z → Cov (a :: q) z) → ∀ z, Cov p z → Cov q z := by
   intro p q hp hz z hc
   rcases (cov_cons a q z).1 (hz z ((cov_cons a p z).2 (.inr hc))) with hh | hh
   ·obtain ⟨s, hs, s1, s2⟩ := hc
    have := hp.2.1 s hs
    omega
   ·exact hh
  rw [good_unique a3 b3 (fun z => ⟨tails ha0 (fun z => (h z).1) z, tails hb0 (fun z => (h z).2) z⟩)]
/-- Merging: one span more, behind the last one. -/
def mstep (out : List (Int × Int)) (s : Int × Int) : List (Int × Int) :=
 match out.getLast? with
 | some p => if s.1 < p.2 then out.dropLast ++ [(p.1, max p.2 s.2)] else out ++ [s]
 | none => [s]
theorem mstep_snoc (o : List (Int × Int)) (p s : Int × Int) : mstep (o ++ [p]) s = if s.1 < p.2 then o ++ [(p.1, max p.2 s.2)] else o ++ [p, s] := by
 unfold mstep
 simp
/-- Spans that lie by their starts, merged. -/
def mergeS (l : List (Int × Int)) : List (Int × Int) := l.foldl mstep []
theorem mstep_good {out : List (Int × Int)} {s : Int × Int} (hg : Good out) (hs : s.1 < s.2) (hle : ∀ x ∈ out, x.1 ≤ s.1) :
  Good (mstep out s) ∧ (∀ x ∈ mstep out s, x.1 ≤ s.1) ∧ ∀ z, Cov (mstep out s) z ↔ Cov out z ∨ (2 * s.1 < z ∧ z < 2 * s.2) := by
 rcases List.eq_nil_or_concat out with rfl | ⟨o, p, rfl⟩
 ·refine ⟨⟨hs, by simp, trivial⟩, by simp [mstep], fun z => ?_⟩
  show Cov [s] z ↔ _
  rw [cov_cons]
  constructor
  ·rintro (h | h)
   ·exact .inr h
   ·exact absurd h (cov_nil z)
  ·rintro (h | h)
   ·exact absurd h (cov_nil z)
   ·exact .inl h
 ·rw [List.concat_eq_append] at hg hle ⊢
  rw [mstep_snoc]
  obtain ⟨g1, g2, g3⟩ := good_append.1 hg
  have hp : p.1 ≤ s.1 := hle p (by simp)
  have hpp : p.1 < p.2 := g2.1
  split
  ·rename_i hlt
   have hmax : p.1 < max p.2 s.2 := by omega
   refine ⟨good_append.2 ⟨g1, ⟨hmax, by simp, trivial⟩, fun x hx y hy => ?_⟩, fun x hx => ?_, fun z => ?_⟩
   ·simp at hy
    subst hy
    exact g3 x hx p (by simp)
   ·rcases List.mem_append.1 hx with h | h
    ·exact hle x (List.mem_append_left _ h)
    ·simp at h; subst h; exact hp
   ·rw [cov_append, cov_append, cov_cons, cov_cons]
    simp only [cov_nil, or_false]
    constructor
    ·rintro (h | ⟨h1, h2⟩)
     ·exact .inl (.inl h)
     ·rcases Int.lt_or_le z (2 * p.2) with h3 | h3
      ·exact .inl (.inr ⟨h1, h3⟩)
      ·exact .inr ⟨by omega, by omega⟩
    ·rintro ((h | ⟨h1, h2⟩) | ⟨h1, h2⟩)
     ·exact .inl h
     ·exact .inr ⟨h1, by omega⟩
     ·exact .inr ⟨by omega, by omega⟩
  ·rename_i hlt
   have e : o ++ [p, s] = (o ++ [p]) ++ [s] := by simp
   rw [e]
   refine ⟨good_append.2 ⟨hg, ⟨hs, by simp, trivial⟩, fun x hx y hy => ?_⟩, fun x hx => ?_, fun z => ?_⟩
   ·simp at hy
    subst hy
    rcases List.mem_append.1 hx with h | h
    ·have := g3 x h p (by simp)
     omega
    ·simp at h; subst h; omega
   ·rcases List.mem_append.1 hx with h | h
    ·exact hle x h
    ·simp at h; subst h; omega
   ·rw [cov_append (o ++ [p]), cov_cons]
    simp only [cov_nil, or_false]
theorem mergeS_good (l : List (Int × Int)) (hn : ∀ x ∈ l, x.1 < x.2) (hs : l.Pairwise fun a b => a.1 ≤ b.1) : Good (mergeS l) ∧ ∀ z, Cov (mergeS l) z ↔ Cov l z := by
 suffices H : ∀ (l out : List (Int × Int)), (∀ x ∈ l, x.1 < x.2) → (l.Pairwise fun a b => a.1 ≤ b.1) → Good out → (∀ x ∈ out, ∀ y ∈ l, x.1 ≤ y.1) →
   Good (l.foldl mstep out) ∧ ∀ z, Cov (l.foldl mstep out) z ↔ Cov out z ∨ Cov l z by
  have := H l [] hn hs trivial (by simp)
  refine ⟨this.1, fun z => ?_⟩
  rw [show mergeS l = l.foldl mstep [] from rfl, this.2 z]
  simp [cov_nil]
 intro l
 induction l with
 | nil => intro out _ _ hg _; exact ⟨hg, fun z => by simp [cov_nil]⟩
 | cons s l ih =>
  intro out hn hs hg hle
  obtain ⟨p1, p2⟩ := List.pairwise_cons.1 hs
  obtain ⟨m1, m2, m3⟩ := mstep_good hg (hn s (by simp)) (fun x hx => hle x hx s (by simp))
  obtain ⟨i1, i2⟩ := ih (mstep out s) (fun x hx => hn x (by simp [hx])) p2 m1 (fun x hx y hy => Int.le_trans (m2 x hx) (p1 y hy))
  refine ⟨i1, fun z => ?_⟩
  rw [List.foldl_cons, i2 z, m3 z, cov_cons, or_assoc]
/-- The same spans, in whatever order they lay, merged: the same sessions. -/
theorem mergeS_perm {l m : List (Int × Int)} (hn : ∀ x ∈ l, x.1 < x.2) (hl : l.Pairwise fun a b => a.1 ≤ b.1) (hm : m.Pairwise fun a b => a.1 ≤ b.1) (hp : l.Perm m) : mergeS l = mergeS m := by
 obtain ⟨a1, a2⟩ := mergeS_good l hn hl
 obtain ⟨b1, b2⟩ := mergeS_good m (fun x hx => hn x (hp.mem_iff.2 hx)) hm
 exact good_unique a1 b1 (fun z => by rw [a2, b2, cov_perm hp])
end Go.Proofs.YtnljihjhmgpcoaaGreat
