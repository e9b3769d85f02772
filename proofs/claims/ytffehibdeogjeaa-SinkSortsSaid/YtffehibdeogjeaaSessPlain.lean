/- Sessions as plain lists of spans: what they cover fixes them; merging sorted spans, and putting one more span among sessions, keep what is covered. No condition. -/
import Derived.Lib.Hide
namespace Go.Proofs.Ytffehibdeogjeaa

/-- What spans cover, on a line of half steps. -/
def Cov (l : List (Int × Int)) (z : Int) : Prop := ∃ s ∈ l, 2 * s.1 < z ∧ z < 2 * s.2
/-- Sessions: none is empty, each one ends ahead of the next. -/
def Good : List (Int × Int) → Prop
  | [] => True
  | s :: l => s.1 < s.2 ∧ (∀ x ∈ l, s.2 ≤ x.1) ∧ Good l
theorem cov_nil (z : Int) : ¬ Cov [] z := by rintro ⟨s, h, _⟩; cases h
theorem cov_cons (s : Int × Int) (l : List (Int × Int)) (z : Int) : Cov (s :: l) z ↔ (2 * s.1 < z ∧ z < 2 * s.2) ∨ Cov l z := by
  unfold Cov
  simp only [List.mem_cons, exists_eq_or_imp]
theorem cov_append (l m : List (Int × Int)) (z : Int) : Cov (l ++ m) z ↔ Cov l z ∨ Cov m z := by
  unfold Cov
  simp only [List.mem_append]
  constructor
  · rintro ⟨s, h | h, h2⟩
    · exact .inl ⟨s, h, h2⟩
    · exact .inr ⟨s, h, h2⟩
  · rintro (⟨s, h, h2⟩ | ⟨s, h, h2⟩)
    · exact ⟨s, .inl h, h2⟩
    · exact ⟨s, .inr h, h2⟩
theorem cov_perm {l m : List (Int × Int)} (h : l.Perm m) (z : Int) : Cov l z ↔ Cov m z := by
  unfold Cov
  simp only [h.mem_iff]
theorem good_mem : ∀ {l : List (Int × Int)}, Good l → ∀ x ∈ l, x.1 < x.2
  | [], _, _, h => by cases h
  | _ :: _, ⟨h1, _, h3⟩, x, h => by
    rcases List.mem_cons.1 h with rfl | h
    · exact h1
    · exact good_mem h3 x h
theorem good_append : ∀ {l m : List (Int × Int)}, Good (l ++ m) ↔ Good l ∧ Good m ∧ ∀ x ∈ l, ∀ y ∈ m, x.2 ≤ y.1
  | [], m => by simp [Good]
  | s :: l, m => by
    rw [List.cons_append]
    show (s.1 < s.2 ∧ (∀ x ∈ l ++ m, s.2 ≤ x.1) ∧ Good (l ++ m)) ↔ (s.1 < s.2 ∧ (∀ x ∈ l, s.2 ≤ x.1) ∧ Good l) ∧ Good m ∧ ∀ x ∈ s :: l, ∀ y ∈ m, x.2 ≤ y.1
    rw [good_append]
    constructor
    · rintro ⟨h1, h2, h3, h4, h5⟩
      refine ⟨⟨h1, fun x hx => h2 x (List.mem_append_left _ hx), h3⟩, h4, fun x hx y hy => ?_⟩
      rcases List.mem_cons.1 hx with rfl | hx
      · exact h2 y (List.mem_append_right _ hy)
      · exact h5 x hx y hy
    · rintro ⟨⟨h1, h2, h3⟩, h4, h5⟩
      refine ⟨h1, fun x hx => ?_, h3, h4, fun x hx => h5 x (List.mem_cons_of_mem _ hx)⟩
      rcases List.mem_append.1 hx with h | h
      · exact h2 x h
      · exact h5 s (List.mem_cons_self) x h
/-- What is covered fixes sessions. -/
theorem good_unique : ∀ {l m : List (Int × Int)}, Good l → Good m → (∀ z, Cov l z ↔ Cov m z) → l = m
  | [], [], _, _, _ => rfl
  | [], b :: m, _, ⟨h1, _, _⟩, h => absurd ((h (2 * b.1 + 1)).2 ⟨b, List.mem_cons_self, by omega, by omega⟩) (cov_nil _)
  | a :: l, [], ⟨h1, _, _⟩, _, h => absurd ((h (2 * a.1 + 1)).1 ⟨a, List.mem_cons_self, by omega, by omega⟩) (cov_nil _)
  | a :: l, b :: m, ha, hb, h => by
    have ha0 := ha
    have hb0 := hb
    obtain ⟨a1, a2, a3⟩ := ha
    obtain ⟨b1, b2, b3⟩ := hb
    have first : ∀ {x y : Int × Int} {p q : List (Int × Int)}, Good (x :: p) → Good (y :: q) → (∀ z, Cov (x :: p) z → Cov (y :: q) z) → y.1 ≤ x.1 := by
      intro x y p q hx hy hz
      obtain ⟨s, hs, s1, s2⟩ := hz (2 * x.1 + 1) ⟨x, List.mem_cons_self, by omega, by have := hx.1; omega⟩
      rcases List.mem_cons.1 hs with rfl | hs
      · omega
      · have := hy.2.1 s hs
        have := hy.1
        omega
    have e1 : a.1 = b.1 := Int.le_antisymm (first hb0 ha0 (fun z => (h z).2)) (first ha0 hb0 (fun z => (h z).1))
    have last : ∀ {x y : Int × Int} {p q : List (Int × Int)}, Good (x :: p) → Good (y :: q) → x.1 = y.1 → (∀ z, Cov (y :: q) z → Cov (x :: p) z) → y.2 ≤ x.2 := by
      intro x y p q hx hy he hz
      rcases Int.lt_or_le x.2 y.2 with hlt | hle
      · exfalso
        obtain ⟨s, hs, s1, s2⟩ := hz (2 * x.2) ⟨y, List.mem_cons_self, by have := hx.1; omega, by omega⟩
        rcases List.mem_cons.1 hs with rfl | hs
        · omega
        · have := hx.2.1 s hs
          omega
      · exact hle
    have e2 : a.2 = b.2 := Int.le_antisymm (last hb0 ha0 e1.symm (fun z => (h z).1)) (last ha0 hb0 e1 (fun z => (h z).2))
    obtain rfl : a = b := by
      obtain ⟨x, y⟩ := a
      obtain ⟨u, v⟩ := b
      simp only at e1 e2
      rw [e1, e2]
    have tails : ∀ {p q : List (Int × Int)}, Good (a :: p) → (∀ z, Cov (a :: p) z → Cov (a :: q) z) → ∀ z, Cov p z → Cov q z := by
      intro p q hp hz z hc
      rcases (cov_cons a q z).1 (hz z ((cov_cons a p z).2 (.inr hc))) with hh | hh
      · obtain ⟨s, hs, s1, s2⟩ := hc
        have := hp.2.1 s hs
        omega
      · exact hh
    rw [good_unique a3 b3 (fun z => ⟨tails ha0 (fun z => (h z).1) z, tails hb0 (fun z => (h z).2) z⟩)]

/-- Merging: one span more, behind the last one. -/
def mstep (out : List (Int × Int)) (s : Int × Int) : List (Int × Int) :=
  match out.getLast? with
  | some p => if s.1 < p.2 then out.dropLast ++ [(p.1, max p.2 s.2)] else out ++ [s]
  | none => [s]
theorem mstep_snoc (o : List (Int × Int)) (p s : Int × Int) : mstep (o ++ [p]) s = if s.1 < p.2 then o ++ [(p.1, max p.2 s.2)] else o ++ [p, s] := by
  unfold mstep
  simp
/-- Spans that lie by their starts, merged. -/
def mergeS (l : List (Int × Int)) : List (Int × Int) := l.foldl mstep []
theorem mstep_good {out : List (Int × Int)} {s : Int × Int} (hg : Good out) (hs : s.1 < s.2) (hle : ∀ x ∈ out, x.1 ≤ s.1) :
    Good (mstep out s) ∧ (∀ x ∈ mstep out s, x.1 ≤ s.1) ∧ ∀ z, Cov (mstep out s) z ↔ Cov out z ∨ (2 * s.1 < z ∧ z < 2 * s.2) := by
  rcases List.eq_nil_or_concat out with rfl | ⟨o, p, rfl⟩
  · refine ⟨⟨hs, by simp, trivial⟩, by simp [mstep], fun z => ?_⟩
    show Cov [s] z ↔ _
    rw [cov_cons]
    constructor
    · rintro (h | h)
      · exact .inr h
      · exact absurd h (cov_nil z)
    · rintro (h | h)
      · exact absurd h (cov_nil z)
      · exact .inl h
  · rw [List.concat_eq_append] at hg hle ⊢
    rw [mstep_snoc]
    obtain ⟨g1, g2, g3⟩ := good_append.1 hg
    have hp : p.1 ≤ s.1 := hle p (by simp)
    have hpp : p.1 < p.2 := g2.1
    split
    · rename_i hlt
      have hmax : p.1 < max p.2 s.2 := by omega
      refine ⟨good_append.2 ⟨g1, ⟨hmax, by simp, trivial⟩, fun x hx y hy => ?_⟩, fun x hx => ?_, fun z => ?_⟩
      · simp at hy
        subst hy
        exact g3 x hx p (by simp)
      · rcases List.mem_append.1 hx with h | h
        · exact hle x (List.mem_append_left _ h)
        · simp at h; subst h; exact hp
      · rw [cov_append, cov_append, cov_cons, cov_cons]
        simp only [cov_nil, or_false]
        constructor
        · rintro (h | ⟨h1, h2⟩)
          · exact .inl (.inl h)
          · rcases Int.lt_or_le z (2 * p.2) with h3 | h3
            · exact .inl (.inr ⟨h1, h3⟩)
            · exact .inr ⟨by omega, by omega⟩
        · rintro ((h | ⟨h1, h2⟩) | ⟨h1, h2⟩)
          · exact .inl h
          · exact .inr ⟨h1, by omega⟩
          · exact .inr ⟨by omega, by omega⟩
    · rename_i hlt
      have e : o ++ [p, s] = (o ++ [p]) ++ [s] := by simp
      rw [e]
      refine ⟨good_append.2 ⟨hg, ⟨hs, by simp, trivial⟩, fun x hx y hy => ?_⟩, fun x hx => ?_, fun z => ?_⟩
      · simp at hy
        subst hy
        rcases List.mem_append.1 hx with h | h
        · have := g3 x h p (by simp)
          omega
        · simp at h; subst h; omega
      · rcases List.mem_append.1 hx with h | h
        · exact hle x h
        · simp at h; subst h; omega
      · rw [cov_append (o ++ [p]), cov_cons]
        simp only [cov_nil, or_false]
theorem mergeS_good (l : List (Int × Int)) (hn : ∀ x ∈ l, x.1 < x.2) (hs : l.Pairwise fun a b => a.1 ≤ b.1) : Good (mergeS l) ∧ ∀ z, Cov (mergeS l) z ↔ Cov l z := by
  suffices H : ∀ (l out : List (Int × Int)), (∀ x ∈ l, x.1 < x.2) → (l.Pairwise fun a b => a.1 ≤ b.1) → Good out → (∀ x ∈ out, ∀ y ∈ l, x.1 ≤ y.1) →
      Good (l.foldl mstep out) ∧ ∀ z, Cov (l.foldl mstep out) z ↔ Cov out z ∨ Cov l z by
    have := H l [] hn hs trivial (by simp)
    refine ⟨this.1, fun z => ?_⟩
    rw [show mergeS l = l.foldl mstep [] from rfl, this.2 z]
    simp [cov_nil]
  intro l
  induction l with
  | nil => intro out _ _ hg _; exact ⟨hg, fun z => by simp [cov_nil]⟩
  | cons s l ih =>
    intro out hn hs hg hle
    obtain ⟨p1, p2⟩ := List.pairwise_cons.1 hs
    obtain ⟨m1, m2, m3⟩ := mstep_good hg (hn s (by simp)) (fun x hx => hle x hx s (by simp))
    obtain ⟨i1, i2⟩ := ih (mstep out s) (fun x hx => hn x (by simp [hx])) p2 m1 (fun x hx y hy => Int.le_trans (m2 x hx) (p1 y hy))
    refine ⟨i1, fun z => ?_⟩
    rw [List.foldl_cons, i2 z, m3 z, cov_cons, or_assoc]
/-- The same spans, in whatever order they lay, merged: the same sessions. -/
theorem mergeS_perm {l m : List (Int × Int)} (hn : ∀ x ∈ l, x.1 < x.2) (hl : l.Pairwise fun a b => a.1 ≤ b.1) (hm : m.Pairwise fun a b => a.1 ≤ b.1) (hp : l.Perm m) : mergeS l = mergeS m := by
  obtain ⟨a1, a2⟩ := mergeS_good l hn hl
  obtain ⟨b1, b2⟩ := mergeS_good m (fun x hx => hn x (hp.mem_iff.2 hx)) hm
  exact good_unique a1 b1 (fun z => by rw [a2, b2, cov_perm hp])

/-! ### one span put among sessions, as the reference does it -/
def ovl (a b : Int × Int) : Bool := decide (a.1 < b.2) && decide (b.1 < a.2)
/-- The span as it has grown, those ahead of it, those behind it. -/
def wstep (st : (Int × Int) × List (Int × Int) × List (Int × Int)) (x : Int × Int) : (Int × Int) × List (Int × Int) × List (Int × Int) :=
  if ovl x st.1 = true then ((min st.1.1 x.1, max st.1.2 x.2), st.2.1, st.2.2) else if x.1 < st.1.1 then (st.1, st.2.1 ++ [x], st.2.2) else (st.1, st.2.1, st.2.2 ++ [x])
def withS (l : List (Int × Int)) (s : Int × Int) : List (Int × Int) := let r := l.foldl wstep (s, [], []); r.2.1 ++ [r.1] ++ r.2.2
theorem wstep_good {st : (Int × Int) × List (Int × Int) × List (Int × Int)} {x : Int × Int} (hg : Good (st.2.1 ++ [st.1] ++ st.2.2)) (hx : x.1 < x.2) (hb : ∀ y ∈ st.2.1 ++ st.2.2, y.2 ≤ x.1) (hs : st.2.2 ≠ [] → st.1.2 ≤ x.1) :
    Good ((wstep st x).2.1 ++ [(wstep st x).1] ++ (wstep st x).2.2) ∧ (∀ z, Cov ((wstep st x).2.1 ++ [(wstep st x).1] ++ (wstep st x).2.2) z ↔ Cov (st.2.1 ++ [st.1] ++ st.2.2) z ∨ (2 * x.1 < z ∧ z < 2 * x.2)) ∧
      (∀ y ∈ (wstep st x).2.1 ++ (wstep st x).2.2, y.2 ≤ x.2) ∧ ((wstep st x).2.2 ≠ [] → (wstep st x).1.2 ≤ x.2) := by
  obtain ⟨s, bef, beh⟩ := st
  simp only at hg hb hs
  obtain ⟨g1, g2, g3⟩ := good_append.1 hg
  obtain ⟨g4, ⟨g5, -, -⟩, g6⟩ := good_append.1 g1
  have hbx : ∀ y ∈ bef, y.2 ≤ x.1 := fun y hy => hb y (List.mem_append_left _ hy)
  have hbs : ∀ y ∈ bef, y.2 ≤ s.1 := fun y hy => g6 y hy s (by simp)
  unfold wstep
  simp only
  by_cases ho : ovl x s = true
  · rw [if_pos ho]
    simp only [ovl, Bool.and_eq_true, decide_eq_true_eq] at ho
    have hbeh : beh = [] := by
      rcases beh with _ | ⟨y, beh⟩
      · rfl
      · have := hs (by simp); omega
    subst hbeh
    simp only [List.append_nil]
    refine ⟨good_append.2 ⟨g4, ⟨by simp only; omega, by simp, trivial⟩, fun y hy w hw => ?_⟩, fun z => ?_, fun y hy => ?_, by simp⟩
    · simp at hw
      subst hw
      have h1 := hbx y hy
      have h2 := hbs y hy
      simp only
      omega
    · rw [cov_append, cov_append, cov_cons, cov_cons]
      simp only [cov_nil, or_false]
      constructor
      · rintro (h | ⟨h1, h2⟩)
        · exact .inl (.inl h)
        · by_cases h3 : 2 * s.1 < z ∧ z < 2 * s.2
          · exact .inl (.inr h3)
          · exact .inr ⟨by omega, by omega⟩
      · rintro ((h | ⟨h1, h2⟩) | ⟨h1, h2⟩)
        · exact .inl h
        · exact .inr ⟨by omega, by omega⟩
        · exact .inr ⟨by omega, by omega⟩
    · have := hbx y hy
      omega
  · rw [if_neg ho]
    simp only [ovl, Bool.and_eq_true, decide_eq_true_eq] at ho
    by_cases hlt : x.1 < s.1
    · rw [if_pos hlt]
      have hbeh : beh = [] := by
        rcases beh with _ | ⟨y, beh⟩
        · rfl
        · have := hs (by simp); omega
      subst hbeh
      simp only [List.append_nil]
      have hxs : x.2 ≤ s.1 := by omega
      refine ⟨good_append.2 ⟨good_append.2 ⟨g4, ⟨hx, by simp, trivial⟩, fun y hy w hw => ?_⟩, ⟨g5, by simp, trivial⟩, fun y hy w hw => ?_⟩, fun z => ?_, fun y hy => ?_, by simp⟩
      · simp at hw; subst hw; exact hbx y hy
      · simp at hw; subst hw
        rcases List.mem_append.1 hy with h | h
        · exact hbs y h
        · simp at h; subst h; exact hxs
      · rw [cov_append, cov_append, cov_append, cov_cons, cov_cons]
        simp only [cov_nil, or_false]
        constructor
        · rintro ((h | h) | h)
          · exact .inl (.inl h)
          · exact .inr h
          · exact .inl (.inr h)
        · rintro ((h | h) | h)
          · exact .inl (.inl h)
          · exact .inr h
          · exact .inl (.inr h)
      · rcases List.mem_append.1 hy with h | h
        · have := hbx y h; omega
        · simp at h; subst h; omega
    · rw [if_neg hlt]
      have hsx : s.2 ≤ x.1 := by omega
      refine ⟨?_, fun z => ?_, fun y hy => ?_, fun _ => by simp only; omega⟩
      · rw [← List.append_assoc]
        refine good_append.2 ⟨hg, ⟨hx, by simp, trivial⟩, fun y hy w hw => ?_⟩
        simp at hw
        subst hw
        rcases List.mem_append.1 hy with h | h
        · rcases List.mem_append.1 h with h | h
          · exact hbx y h
          · simp at h; subst h; exact hsx
        · exact hb y (List.mem_append_right _ h)
      · rw [← List.append_assoc, cov_append (bef ++ [s] ++ beh), cov_cons]
        simp only [cov_nil, or_false]
      · rcases List.mem_append.1 hy with h | h
        · have := hbx y h; omega
        · rcases List.mem_append.1 h with h | h
          · have := hb y (List.mem_append_right _ h); omega
          · simp at h; subst h; omega
theorem withS_good (l : List (Int × Int)) (s : Int × Int) (hg : Good l) (hs : s.1 < s.2) : Good (withS l s) ∧ ∀ z, Cov (withS l s) z ↔ Cov l z ∨ (2 * s.1 < z ∧ z < 2 * s.2) := by
  suffices H : ∀ (l : List (Int × Int)) (st : (Int × Int) × List (Int × Int) × List (Int × Int)), Good l → Good (st.2.1 ++ [st.1] ++ st.2.2) → (∀ x ∈ l, (∀ y ∈ st.2.1 ++ st.2.2, y.2 ≤ x.1) ∧ (st.2.2 ≠ [] → st.1.2 ≤ x.1)) →
      Good ((l.foldl wstep st).2.1 ++ [(l.foldl wstep st).1] ++ (l.foldl wstep st).2.2) ∧ ∀ z, Cov ((l.foldl wstep st).2.1 ++ [(l.foldl wstep st).1] ++ (l.foldl wstep st).2.2) z ↔ Cov (st.2.1 ++ [st.1] ++ st.2.2) z ∨ Cov l z by
    obtain ⟨h1, h2⟩ := H l (s, [], []) hg ⟨hs, by simp, trivial⟩ (fun x _ => ⟨by simp, by simp⟩)
    refine ⟨h1, fun z => (h2 z).trans ?_⟩
    simp only [List.nil_append, List.append_nil]
    rw [cov_cons]
    simp only [cov_nil, or_false]
    exact or_comm
  intro l
  induction l with
  | nil => intro st _ hg _; exact ⟨hg, fun z => by simp [cov_nil]⟩
  | cons x l ih =>
    intro st hl hg hb
    obtain ⟨l1, l2, l3⟩ := hl
    obtain ⟨b1, b2⟩ := hb x (by simp)
    obtain ⟨w1, w2, w3, w4⟩ := wstep_good hg l1 b1 b2
    obtain ⟨i1, i2⟩ := ih (wstep st x) l3 w1 (fun y hy => ⟨fun u hu => Int.le_trans (w3 u hu) (l2 y hy), fun h => Int.le_trans (w4 h) (l2 y hy)⟩)
    refine ⟨i1, fun z => ?_⟩
    rw [List.foldl_cons, i2 z, w2 z, cov_cons, or_assoc]
end Go.Proofs.Ytffehibdeogjeaa
