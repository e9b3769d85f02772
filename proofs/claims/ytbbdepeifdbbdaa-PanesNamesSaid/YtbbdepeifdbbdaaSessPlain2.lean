/- More of sessions as plain lists: what merging leaves of starts and ends, which session holds a time, what adding changes. No condition. -/
import Derived.Test.YtbbdepeifdbbdaaKitH
import Derived.Test.YtbbdepeifdbbdaaSessMerge
namespace Go.Proofs.Ytbbdepeifdbbdaa
open Go.RowKit Go.ChangeShapes Go.WideShapes Go.ChangeAt Go.Deep

def i64ok (x : Int) : Prop := (Lit.int .i64 x).wf = true
theorem ienc_dec (vs : List Value) (h : FitsL [some .i64] vs) : ∃ x, vs = ienc x ∧ i64ok x := by
  obtain ⟨n, vs', rfl, hw, rfl⟩ := h
  exact ⟨n, rfl, hw⟩
def spok (x : Int × Int) : Prop := (Lit.int .i64 x.1).wf = true ∧ (Lit.int .i64 x.2).wf = true
theorem senc_dec (vs : List Value) (h : FitsL [some .i64, some .i64] vs) : ∃ x, vs = senc x ∧ spok x := by
  obtain ⟨n, vs', rfl, hw, m, vs2, rfl, hw2, rfl⟩ := h
  exact ⟨(n, m), rfl, hw, hw2⟩

theorem filter_snoc {α : Type} (p : α → Bool) {l : List α} {k : Nat} {x : α} (h : l[k]? = some x) : (l.take (k + 1)).filter p = (l.take k).filter p ++ if p x = true then [x] else [] := by
  rw [List.take_add_one, h, List.filter_append]
  simp only [Option.toList_some, List.filter_cons, List.filter_nil]
theorem any_snoc {α : Type} (p : α → Bool) {l : List α} {k : Nat} {x : α} (h : l[k]? = some x) : (l.take (k + 1)).any p = ((l.take k).any p || p x) := by
  rw [List.take_add_one, h, List.any_append]
  simp
theorem good_two : ∀ {l : List (Int × Int)}, Good l → ∀ x ∈ l, ∀ y ∈ l, x = y ∨ x.2 ≤ y.1 ∨ y.2 ≤ x.1
  | [], _, _, h, _, _ => by cases h
  | s :: l, ⟨_, h2, h3⟩, x, hx, y, hy => by
    rcases List.mem_cons.1 hx with e | hx'
    · rcases List.mem_cons.1 hy with e' | hy'
      · exact .inl (e.trans e'.symm)
      · exact .inr (.inl (by rw [e]; exact h2 y hy'))
    · rcases List.mem_cons.1 hy with e' | hy'
      · exact .inr (.inr (by rw [e']; exact h2 x hx'))
      · exact good_two h3 x hx' y hy'
theorem good_get : ∀ {l : List (Int × Int)}, Good l → ∀ (i j : Nat) (x y : Int × Int), i < j → l[i]? = some x → l[j]? = some y → x.2 ≤ y.1
  | [], _, _, _, _, _, _, h, _ => by simp at h
  | s :: l, ⟨_, h2, _⟩, 0, j + 1, x, y, _, hx, hy => by
    simp only [List.getElem?_cons_zero, Option.some.injEq] at hx
    simp only [List.getElem?_cons_succ] at hy
    subst hx
    exact h2 y (List.mem_of_getElem? hy)
  | s :: l, ⟨_, _, h3⟩, i + 1, j + 1, x, y, hij, hx, hy => by
    simp only [List.getElem?_cons_succ] at hx hy
    exact good_get h3 i j x y (by omega) hx hy
theorem good_interval {l : List (Int × Int)} (hg : Good l) {a b : Int} (hab : a < b) (hc : ∀ z, 2 * a < z → z < 2 * b → Cov l z) : ∃ x ∈ l, x.1 ≤ a ∧ b ≤ x.2 := by
  obtain ⟨x, hx, h1, h2⟩ := hc (2 * a + 1) (by omega) (by omega)
  refine ⟨x, hx, by omega, ?_⟩
  rcases Int.lt_or_le x.2 b with h | h
  · obtain ⟨y, hy, h3, h4⟩ := hc (2 * x.2) (by omega) (by omega)
    have := good_mem hg x hx
    rcases good_two hg x hx y hy with rfl | h5 | h5 <;> omega
  · exact h
/-- Merging leaves each start and each end one of those that were there. -/
theorem mstep_ends {P Q : Int → Prop} {o : List (Int × Int)} {s : Int × Int} (ho : ∀ x ∈ o, P x.1 ∧ Q x.2) (hs : P s.1 ∧ Q s.2) : ∀ x ∈ mstep o s, P x.1 ∧ Q x.2 := by
  rcases List.eq_nil_or_concat o with rfl | ⟨o, p, rfl⟩
  · intro x hx; simp [mstep] at hx; subst hx; exact hs
  · rw [List.concat_eq_append] at ho ⊢
    rw [mstep_snoc]
    have hp := ho p (by simp)
    split
    · intro x hx
      rcases List.mem_append.1 hx with h | h
      · exact ho x (by simp [h])
      · simp only [List.mem_singleton] at h
        subst h
        refine ⟨hp.1, ?_⟩
        simp only
        rcases Int.le_total p.2 s.2 with h | h
        · rw [Int.max_eq_right h]; exact hs.2
        · rw [Int.max_eq_left h]; exact hp.2
    · intro x hx
      rcases List.mem_append.1 hx with h | h
      · exact ho x (by simp [h])
      · simp at h
        rcases h with rfl | rfl
        · exact hp
        · exact hs
theorem mergeS_ends {P Q : Int → Prop} (l : List (Int × Int)) (h : ∀ x ∈ l, P x.1 ∧ Q x.2) : ∀ x ∈ mergeS l, P x.1 ∧ Q x.2 := by
  suffices H : ∀ (l o : List (Int × Int)), (∀ x ∈ l, P x.1 ∧ Q x.2) → (∀ x ∈ o, P x.1 ∧ Q x.2) → ∀ x ∈ l.foldl mstep o, P x.1 ∧ Q x.2 from H l [] h (by simp)
  intro l
  induction l with
  | nil => intro o _ ho; exact ho
  | cons s l ih => intro o hl ho; exact ih (mstep o s) (fun x hx => hl x (by simp [hx])) (mstep_ends ho (hl s (by simp)))
theorem canon_ends {P Q : Int → Prop} {l : List (Int × Int)} (h : ∀ x ∈ l, P x.1 ∧ Q x.2) : ∀ x ∈ canon l, P x.1 ∧ Q x.2 :=
  mergeS_ends _ fun x hx => h x ((List.mergeSort_perm l _).mem_iff.1 hx)
/-- The sessions of times are right. -/
theorem srt_canon {l : List (Int × Int)} (hn : ∀ x ∈ l, sok x) (h4 : l.length ≤ 4000) : srtB (canon l) = true := by
  have hg := (canon_good (fun x hx => (hn x hx).2.2.1)).1
  have he := canon_ends (P := fun a => -1099511627776 ≤ a ∧ a ≤ 1099511627776) (Q := fun b => b ≤ 1100585369600) (l := l) (fun x hx => ⟨⟨(hn x hx).1, (hn x hx).2.1⟩, (hn x hx).2.2.2⟩)
  have hlen := canon_len l
  refine srt_all (by omega) ⟨fun i hi => ?_, fun i h0 hi => ?_⟩
  · have hx : (canon l)[i]? = some (canon l)[i] := List.getElem?_eq_getElem hi
    rw [List.getD_eq_getElem?_getD, hx, Option.getD_some]
    have hm := List.mem_of_getElem? hx
    have := he _ hm
    exact ⟨this.1.1, this.1.2, good_mem hg _ hm, this.2⟩
  · have hx : (canon l)[i]? = some (canon l)[i] := List.getElem?_eq_getElem hi
    have hy : (canon l)[i - 1]? = some ((canon l)[i - 1]'(by omega)) := List.getElem?_eq_getElem (by omega)
    rw [List.getD_eq_getElem?_getD, List.getD_eq_getElem?_getD, hx, hy, Option.getD_some, Option.getD_some]
    exact good_get hg (i - 1) i _ _ (by omega) hy hx
theorem sok_time {t g : Int} (h : sck t g = 0) : sok (t, t + g) := by
  obtain ⟨h1, h2, h3, h4⟩ := sck_zero h
  unfold sok
  simp only
  omega
theorem sok_times {ts : List Int} {g : Int} (h : ∀ t ∈ ts, sck t g = 0) : ∀ x ∈ stimes g ts, sok x := fun x hx => by
  obtain ⟨t, ht, rfl⟩ := List.mem_map.1 hx
  exact sok_time (h t ht)
theorem canon_cov {l m : List (Int × Int)} (hl : ∀ x ∈ l, x.1 < x.2) (hm : ∀ x ∈ m, x.1 < x.2) (h : ∀ z, Cov l z ↔ Cov m z) : canon l = canon m := by
  obtain ⟨a1, a2⟩ := canon_good hl
  obtain ⟨b1, b2⟩ := canon_good hm
  exact good_unique a1 b1 fun z => by rw [a2, b2, h]
/-- Few times: their sessions. -/
theorem sof_few {ts : List Int} {g : Int} (h0 : sck 0 g = 0) (h1 : ts.length ≤ 4000) (h2 : ∀ t ∈ ts, sck t g = 0) : sof ts g = (canon (stimes g ts), 0) := by
  unfold sof
  rw [if_neg (by simp [h0]), if_neg (by omega), if_pos h2]
/-- One time more. -/
theorem sadd_few {ts : List Int} {t g : Int} (h1 : ts.length < 4000) (h2 : ∀ u ∈ ts, sck u g = 0) (ht : sck t g = 0) : sadd (canon (stimes g ts)) t g = (canon (stimes g (t :: ts)), 0) := by
  have hs := srt_canon (sok_times h2) (by rw [stimes_len]; omega)
  have hg := (canon_good (fun x hx => (sok_times h2 x hx).2.2.1)).1
  have hok : ∀ x ∈ canon (stimes g ts) ++ [(t, t + g)], x.1 < x.2 := fun x hx => by
    rcases List.mem_append.1 hx with h | h
    · exact good_mem hg x h
    · simp only [List.mem_singleton] at h; subst h; exact (sok_time ht).2.2.1
  have hok2 : ∀ x ∈ stimes g (t :: ts), x.1 < x.2 := fun x hx => (sok_times (ts := t :: ts) (by simpa using ⟨ht, h2⟩) x hx).2.2.1
  have hc : canon (canon (stimes g ts) ++ [(t, t + g)]) = canon (stimes g (t :: ts)) := canon_cov hok hok2 fun z => by
    rw [cov_append, (canon_good (fun x hx => (sok_times h2 x hx).2.2.1)).2, cov_cons]
    show _ ↔ Cov ((t, t + g) :: stimes g ts) z
    rw [cov_cons]
    simp only [cov_nil, or_false]
    exact or_comm
  have hlen := canon_len (stimes g (t :: ts))
  rw [stimes_len, List.length_cons] at hlen
  unfold sadd sfew
  rw [if_neg (by simp [hs]), if_neg (by simp [ht]), hc, if_neg (by omega)]
/-- Two lists of times together. -/
theorem smerge_few {ts us vs : List Int} {g : Int} (h1 : ts.length + us.length ≤ 4000) (h2 : ∀ u ∈ ts, sck u g = 0) (h3 : ∀ u ∈ us, sck u g = 0) (hp : (ts ++ us).Perm vs) : smerge (canon (stimes g ts)) (canon (stimes g us)) = (canon (stimes g vs), 0) := by
  have s1 := srt_canon (sok_times h2) (by rw [stimes_len]; omega)
  have s2 := srt_canon (sok_times h3) (by rw [stimes_len]; omega)
  obtain ⟨g1, c1⟩ := canon_good (fun x hx => (sok_times h2 x hx).2.2.1)
  obtain ⟨g2, c2⟩ := canon_good (fun x hx => (sok_times h3 x hx).2.2.1)
  have hv : ∀ u ∈ vs, sck u g = 0 := fun u hu => (List.mem_append.1 (hp.mem_iff.2 hu)).elim (h2 u) (h3 u)
  have hc : canon (canon (stimes g ts) ++ canon (stimes g us)) = canon (stimes g vs) := canon_cov (fun x hx => (List.mem_append.1 hx).elim (good_mem g1 x) (good_mem g2 x)) (fun x hx => (sok_times hv x hx).2.2.1) fun z => by
    rw [cov_append, c1, c2, ← cov_append]
    have := cov_perm (hp.map fun t => (t, t + g)) z
    rw [List.map_append] at this
    exact this
  have hlen := canon_len (stimes g vs)
  have hl := hp.length_eq
  rw [stimes_len, ← hl, List.length_append] at hlen
  unfold smerge sfew
  rw [if_neg (by simp [s1]), if_neg (by simp [s2]), hc, if_neg (by omega)]

/-! ### which session holds a time -/
/-- The spans that hold a time. -/
def holdS (t : Int) (x : Int × Int) : Bool := decide (x.1 ≤ t) && decide (t < x.2)
theorem hold_none {l : List (Int × Int)} {t : Int} (h : ∀ x ∈ l, t < x.1) : l.filter (holdS t) = [] := List.filter_eq_nil_iff.2 fun x hx => by
  have := h x hx
  simp [holdS]
  omega
theorem hold_one : ∀ {l : List (Int × Int)}, Good l → ∀ {t : Int}, Cov l (2 * t + 1) → (l.filter (holdS t)).length = 1
  | [], _, _, h => absurd h (cov_nil _)
  | s :: l, ⟨h1, h2, h3⟩, t, h => by
    rcases (cov_cons s l _).1 h with ⟨ha, hb⟩ | h
    · have hs : holdS t s = true := by simp [holdS]; omega
      rw [List.filter_cons_of_pos hs, hold_none (fun x hx => by have := h2 x hx; omega)]
      rfl
    · have hs : holdS t s = false := by
        obtain ⟨x, hx, h4, h5⟩ := h
        have := h2 x hx
        simp [holdS]
        omega
      rw [List.filter_cons_of_neg (by simp [hs])]
      exact hold_one h3 h
theorem cov_times {ts : List Int} {g : Int} {z : Int} : Cov (stimes g ts) z ↔ ∃ t ∈ ts, 2 * t < z ∧ z < 2 * (t + g) := by
  constructor
  · rintro ⟨s, hs, h1, h2⟩
    obtain ⟨t, ht, rfl⟩ := List.mem_map.1 hs
    exact ⟨t, ht, h1, h2⟩
  · rintro ⟨t, ht, h1, h2⟩
    exact ⟨(t, t + g), List.mem_map.2 ⟨t, ht, rfl⟩, h1, h2⟩
theorem times_one {ts : List Int} {g : Int} (hg : 1 ≤ g) {t : Int} (ht : t ∈ ts) : ((canon (stimes g ts)).filter (holdS t)).length = 1 := by
  obtain ⟨h1, h2⟩ := canon_good (stimes_ok (ts := ts) hg)
  exact hold_one h1 ((h2 _).2 (cov_times.2 ⟨t, ht, by omega, by omega⟩))
theorem times_ends {ts : List Int} {g : Int} : ∀ x ∈ canon (stimes g ts), x.1 ∈ ts ∧ (∃ t ∈ ts, t + g = x.2) :=
  canon_ends (P := fun a => a ∈ ts) (Q := fun b => ∃ t ∈ ts, t + g = b) fun x hx => by
    obtain ⟨t, ht, rfl⟩ := List.mem_map.1 hx
    exact ⟨ht, t, ht, rfl⟩
/-- A time and the next one are in one session just if they are nearer than the gap. -/
theorem times_near {ts : List Int} {g : Int} (hg : 1 ≤ g) {t u : Int} (ht : t ∈ ts) (hu : u ∈ ts) (htu : t < u) (hnext : ∀ v ∈ ts, t < v → u ≤ v) :
    (∃ x ∈ canon (stimes g ts), x.1 ≤ t ∧ u < x.2) ↔ u - t < g := by
  obtain ⟨h1, h2⟩ := canon_good (stimes_ok (ts := ts) hg)
  constructor
  · rintro ⟨x, hx, h3, h4⟩
    obtain ⟨v, hv, h5, h6⟩ := cov_times.1 ((h2 (2 * u)).1 ⟨x, hx, by omega, by omega⟩)
    have := hnext v hv
    omega
  · intro h
    obtain ⟨x, hx, h3, h4⟩ := good_interval h1 (a := t) (b := u + g) (by omega) (fun z ha hb => (h2 z).2 (cov_times.2 (by
      by_cases hz : z < 2 * (t + g)
      · exact ⟨t, ht, ha, hz⟩
      · exact ⟨u, hu, by omega, hb⟩)))
    exact ⟨x, hx, h3, by omega⟩

/-! ### a time more -/
theorem with_len_fold : ∀ (l : List (Int × Int)) (st : (Int × Int) × List (Int × Int) × List (Int × Int)),
    ((l.foldl wstep st).2.1.length + (l.foldl wstep st).2.2.length ≤ st.2.1.length + st.2.2.length + l.length) ∧
    ((∃ x ∈ l, ovl x st.1 = true) → (l.foldl wstep st).2.1.length + (l.foldl wstep st).2.2.length < st.2.1.length + st.2.2.length + l.length) ∧
    ((∀ x ∈ l, ovl x st.1 = false) → (l.foldl wstep st).1 = st.1 ∧ (l.foldl wstep st).2.1.length + (l.foldl wstep st).2.2.length = st.2.1.length + st.2.2.length + l.length)
  | [], st => ⟨by simp, by simp, by simp⟩
  | x :: l, st => by
    obtain ⟨i1, i2, i3⟩ := with_len_fold l (wstep st x)
    rw [List.foldl_cons]
    by_cases ho : ovl x st.1 = true
    · have e : wstep st x = ((min st.1.1 x.1, max st.1.2 x.2), st.2.1, st.2.2) := by unfold wstep; rw [if_pos ho]
      rw [e] at i1 i2 i3 ⊢
      simp only at i1 i2 i3
      refine ⟨by simp only [List.length_cons]; omega, fun _ => by simp only [List.length_cons]; omega, fun h => ?_⟩
      have := h x (by simp)
      rw [this] at ho
      cases ho
    · have e : (wstep st x).1 = st.1 ∧ (wstep st x).2.1.length + (wstep st x).2.2.length = st.2.1.length + st.2.2.length + 1 := by
        unfold wstep
        rw [if_neg ho]
        split <;> simp <;> omega
      obtain ⟨e1, e2⟩ := e
      rw [e1, e2] at i2 i3
      rw [e2] at i1
      refine ⟨by simp only [List.length_cons]; omega, fun h => ?_, fun h => ?_⟩
      · obtain ⟨y, hy, hy2⟩ := h
        rcases List.mem_cons.1 hy with rfl | hy
        · exact absurd hy2 ho
        · have := i2 ⟨y, hy, hy2⟩
          simp only [List.length_cons]
          omega
      · obtain ⟨j1, j2⟩ := i3 (fun y hy => h y (by simp [hy]))
        refine ⟨j1, by simp only [List.length_cons]; omega⟩
theorem with_far {l : List (Int × Int)} {s : Int × Int} (h : ∀ x ∈ l, ovl x s = false) : s ∈ withS l s ∧ (withS l s).length = l.length + 1 := by
  obtain ⟨-, -, h3⟩ := with_len_fold l (s, [], [])
  obtain ⟨h4, h5⟩ := h3 h
  refine ⟨?_, ?_⟩
  · show s ∈ (l.foldl wstep (s, [], [])).2.1 ++ [(l.foldl wstep (s, [], [])).1] ++ _
    rw [h4]
    simp
  · show ((l.foldl wstep (s, [], [])).2.1 ++ [(l.foldl wstep (s, [], [])).1] ++ (l.foldl wstep (s, [], [])).2.2).length = _
    simp at h5 ⊢
    omega
theorem with_near {l : List (Int × Int)} {s : Int × Int} (h : ∃ x ∈ l, ovl x s = true) : (withS l s).length ≤ l.length := by
  obtain ⟨-, h2, -⟩ := with_len_fold l (s, [], [])
  have := h2 h
  show ((l.foldl wstep (s, [], [])).2.1 ++ [(l.foldl wstep (s, [], [])).1] ++ (l.foldl wstep (s, [], [])).2.2).length ≤ _
  simp at this ⊢
  omega
/-- A time that was there changes nothing. -/
theorem again_same {ts : List Int} {g : Int} (hg : 1 ≤ g) {t : Int} (ht : t ∈ ts) : canon (stimes g (t :: ts)) = canon (stimes g ts) := canon_cov (stimes_ok hg) (stimes_ok hg) fun z => by
  rw [cov_times, cov_times]
  simp only [List.mem_cons, exists_eq_or_imp]
  constructor
  · rintro (h | h)
    · exact ⟨t, ht, h⟩
    · exact h
  · exact .inr
theorem again_with {ts : List Int} {g : Int} (hg : 1 ≤ g) (t : Int) : canon (stimes g (t :: ts)) = withS (canon (stimes g ts)) (t, t + g) := by
  obtain ⟨h1, h2⟩ := canon_good (stimes_ok (ts := ts) hg)
  obtain ⟨h3, h4⟩ := canon_good (stimes_ok (ts := t :: ts) hg)
  obtain ⟨h5, h6⟩ := withS_good (canon (stimes g ts)) (t, t + g) h1 (by simp only; omega)
  refine good_unique h3 h5 fun z => ?_
  rw [h4, h6, h2]
  show Cov ((t, t + g) :: stimes g ts) z ↔ _
  rw [cov_cons]
  exact or_comm
/-- A time that is near to none: a session of its own. -/
theorem again_far {ts : List Int} {g : Int} (hg : 1 ≤ g) {t : Int} (h : ∀ u ∈ ts, ¬ (u - t < g ∧ t - u < g)) : (t, t + g) ∈ canon (stimes g (t :: ts)) ∧ (canon (stimes g (t :: ts))).length = (canon (stimes g ts)).length + 1 := by
  rw [again_with hg]
  obtain ⟨h1, h2⟩ := canon_good (stimes_ok (ts := ts) hg)
  refine with_far fun x hx => ?_
  rcases hb : ovl x (t, t + g) with _ | _
  · rfl
  · exfalso
    simp only [ovl, Bool.and_eq_true, decide_eq_true_eq] at hb
    have := good_mem h1 x hx
    obtain ⟨u, hu, h3, h4⟩ := cov_times.1 ((h2 (2 * (max x.1 t) + 1)).1 ⟨x, hx, by omega, by omega⟩)
    have := h u hu
    omega
theorem again_near {ts : List Int} {g : Int} (hg : 1 ≤ g) {t : Int} (h : ∃ u ∈ ts, u - t < g ∧ t - u < g) : (canon (stimes g (t :: ts))).length ≤ (canon (stimes g ts)).length := by
  rw [again_with hg]
  obtain ⟨h1, h2⟩ := canon_good (stimes_ok (ts := ts) hg)
  obtain ⟨u, hu, h3, h4⟩ := h
  obtain ⟨x, hx, h5, h6⟩ := (h2 (2 * (max u t) + 1)).2 (cov_times.2 ⟨u, hu, by omega, by omega⟩)
  exact with_near ⟨x, hx, by simp [ovl]; omega⟩
end Go.Proofs.Ytbbdepeifdbbdaa
