/- The panes of chapter 19 in plain terms: what the map of panes and the map of windows hold, and that the entries made of them are those of a store. Conditions: valid sliding windows, at most 240 records with times. -/
import Derived.Test.YtbbdepeifdbbdaaPaneMaps
import Derived.Test.YtbbdepeifdbbdaaPaneVals
namespace Go.Proofs.Ytbbdepeifdbbdaa
open Go.RowKit

def pst (g t : Int) : Int := t / g * g
def qPane (g : Int) (a : Int × Int) (p : Pt) : Bool := decide (p.k = a.1 ∧ pst g p.t = a.2)
def paneF (g : Int) (P : List Pt) (a : Int × Int) : Option Acc := if P.any (qPane g a) = true then some (accP (qPane g a) P) else none
theorem any_false {α : Type} {q : α → Bool} {l : List α} (h : ¬ l.any q = true) : ∀ p ∈ l, q p = false := fun p hp => by
  cases hq : q p with
  | false => rfl
  | true => exact absurd (List.any_eq_true.2 ⟨p, hp, hq⟩) h
theorem paneF_nil (g : Int) : paneF g [] = fun _ => none := by funext a; simp [paneF]
theorem paneF_get (g : Int) (P : List Pt) (a : Int × Int) : (paneF g P a).getD acc0 = accP (qPane g a) P := by
  unfold paneF
  split
  · rfl
  · rename_i h
    rw [accP_none (any_false h)]
    rfl
theorem paneF_snoc (g : Int) (P : List Pt) (p : Pt) : (fun k' => if k' = (p.k, pst g p.t) then some (aboth (accP (qPane g (p.k, pst g p.t)) P) (accV p.v)) else paneF g P k') = paneF g (P ++ [p]) := by
  funext k'
  unfold paneF
  rw [List.any_append, accP_snoc]
  by_cases h : k' = (p.k, pst g p.t)
  · subst h
    have : qPane g (p.k, pst g p.t) p = true := by simp [qPane]
    simp [this]
  · have : qPane g k' p = false := by
      unfold qPane; rw [decide_eq_false_iff_not]; rintro ⟨h1, h2⟩; exact h (Prod.ext h1.symm h2.symm)
    simp [this, h]

/-! ### the map of windows -/
def hitW (ws we : Int) (b : Int × Int) (e : (Int × Int) × Acc) : Bool := decide (e.1.1 = b.1 ∧ (b.2, b.2 + ws) ∈ swins (max e.1.2 (-1099511627776)) ws we)
def sumA (D : List ((Int × Int) × Acc)) : Acc := D.foldl (fun a e => aboth a e.2) acc0
def winF (ws we : Int) (D : List ((Int × Int) × Acc)) (b : Int × Int) : Option Acc := if D.any (hitW ws we b) = true then some (sumA (D.filter (hitW ws we b))) else none
def midF (ws we : Int) (D : List ((Int × Int) × Acc)) (e : (Int × Int) × Acc) (T : List (Int × Int)) (b : Int × Int) : Option Acc :=
  if b.1 = e.1.1 ∧ (b.2, b.2 + ws) ∈ T then some (aboth (sumA (D.filter (hitW ws we b))) e.2) else winF ws we D b
theorem winF_nil (ws we : Int) : winF ws we [] = fun _ => none := by funext a; simp [winF]
theorem winF_get (ws we : Int) (D : List ((Int × Int) × Acc)) (b : Int × Int) : (winF ws we D b).getD acc0 = sumA (D.filter (hitW ws we b)) := by
  unfold winF
  split
  · rfl
  · rename_i h
    rw [List.filter_eq_nil_iff.2 (fun x hx => by rw [any_false h x hx]; simp)]
    rfl
theorem midF_nil (ws we : Int) (D : List ((Int × Int) × Acc)) (e : (Int × Int) × Acc) : midF ws we D e [] = winF ws we D := by funext b; simp [midF]
theorem midF_get {ws we : Int} {D : List ((Int × Int) × Acc)} {e : (Int × Int) × Acc} {T : List (Int × Int)} {b : Int × Int} (h : (b.2, b.2 + ws) ∉ T) : (midF ws we D e T b).getD acc0 = sumA (D.filter (hitW ws we b)) := by
  unfold midF
  rw [if_neg (fun hh => h hh.2), winF_get]
theorem midF_snoc {ws we : Int} {D : List ((Int × Int) × Acc)} {e : (Int × Int) × Acc} {T : List (Int × Int)} {q : Int × Int} (hq : q.2 = q.1 + ws) (c : Acc) (hc : c = aboth (sumA (D.filter (hitW ws we (e.1.1, q.1)))) e.2) :
    (fun k' => if k' = (e.1.1, q.1) then some c else midF ws we D e T k') = midF ws we D e (T ++ [q]) := by
  subst hc
  funext k'
  unfold midF
  by_cases h : k' = (e.1.1, q.1)
  · subst h
    have : (q.1, q.1 + ws) = q := Prod.ext rfl hq.symm
    simp [this]
  · have : ∀ x, (k'.1 = e.1.1 ∧ (k'.2, k'.2 + ws) = q ∧ x) → False := fun x ⟨h1, h2, _⟩ => h (Prod.ext h1 (by rw [← h2]))
    rw [if_neg h]
    congr 1
    simp only [List.mem_append, List.mem_singleton, eq_iff_iff]
    constructor
    · rintro ⟨h1, h2⟩; exact ⟨h1, .inl h2⟩
    · rintro ⟨h1, h2 | h2⟩
      · exact ⟨h1, h2⟩
      · exact (this True ⟨h1, h2, trivial⟩).elim
theorem midF_all (ws we : Int) (D : List ((Int × Int) × Acc)) (e : (Int × Int) × Acc) : midF ws we D e (swins (max e.1.2 (-1099511627776)) ws we) = winF ws we (D ++ [e]) := by
  funext b
  unfold midF winF
  rw [List.any_append, List.filter_append]
  by_cases h : hitW ws we b e = true
  · have h' := h
    unfold hitW at h'
    rw [decide_eq_true_eq] at h'
    rw [if_pos ⟨h'.1.symm, h'.2⟩, if_pos (by simp [h])]
    simp [h, sumA, List.foldl_append]
  · have h' : hitW ws we b e = false := by simpa using h
    have hn : ¬ (b.1 = e.1.1 ∧ (b.2, b.2 + ws) ∈ swins (max e.1.2 (-1099511627776)) ws we) := by
      rintro ⟨h1, h2⟩
      unfold hitW at h'
      rw [decide_eq_false_iff_not] at h'
      exact h' ⟨h1.symm, h2⟩
    have e1 : [e].any (hitW ws we b) = false := by rw [List.any_cons, h']; rfl
    have e2 : [e].filter (hitW ws we b) = [] := by rw [List.filter_cons, h']; rfl
    rw [if_neg hn, e1, e2, Bool.or_false, List.append_nil]
/-- A list of panes, each of its own key, each with its records. -/
def goodD (g : Int) (P : List Pt) (D : List ((Int × Int) × Acc)) : Prop := (D.map Prod.fst).Nodup ∧ ∀ e ∈ D, paneF g P e.1 = some e.2
theorem goodD.of {g : Int} {P : List Pt} {M D : List ((Int × Int) × Acc)} (hn : (M.map Prod.fst).Nodup) (hl : ∀ k, lookO M k = paneF g P k) (hs : D.Sublist M) : goodD g P D := by
  refine ⟨hn.sublist (hs.map _), fun e he => ?_⟩
  have he' := hs.subset he
  rw [← hl]
  clear hl hs he
  induction M with
  | nil => cases he'
  | cons x M ih =>
    rw [List.map_cons, List.nodup_cons] at hn
    rcases List.mem_cons.1 he' with rfl | h
    · simp [lookO]
    · have hne : e.1 ≠ x.1 := fun h1 => hn.1 (by rw [← h1]; exact List.mem_map.2 ⟨e, h, rfl⟩)
      have := ih hn.2 h
      simpa [lookO, hne] using this
theorem look_mem {M : List ((Int × Int) × Acc)} {k : Int × Int} {a : Acc} (h : lookO M k = some a) : (k, a) ∈ M := by
  unfold lookO at h
  cases hf : M.find? (fun p => decide (k = p.1)) with
  | none => rw [hf] at h; cases h
  | some x =>
    rw [hf] at h
    have h1 := List.find?_some hf
    have h2 := List.mem_of_find?_eq_some hf
    simp only [decide_eq_true_eq] at h1
    simp only [Option.map_some, Option.some.injEq] at h
    rw [← h, h1]
    exact h2
theorem mem_look {M : List ((Int × Int) × Acc)} (hn : (M.map Prod.fst).Nodup) {e : (Int × Int) × Acc} (h : e ∈ M) : lookO M e.1 = some e.2 := by
  induction M with
  | nil => cases h
  | cons x M ih =>
    rw [List.map_cons, List.nodup_cons] at hn
    rcases List.mem_cons.1 h with rfl | h
    · simp [lookO]
    · have hne : e.1 ≠ x.1 := fun h1 => hn.1 (by rw [← h1]; exact List.mem_map.2 ⟨e, h, rfl⟩)
      have := ih hn.2 h
      simpa [lookO, hne] using this
theorem goodD.perm {g : Int} {P : List Pt} {D E : List ((Int × Int) × Acc)} (h : goodD g P D) (hp : D.Perm E) : goodD g P E := ⟨(hp.map _).nodup_iff.1 h.1, fun e he => h.2 e (hp.mem_iff.2 he)⟩
theorem goodD.sub {g : Int} {P : List Pt} {D E : List ((Int × Int) × Acc)} (h : goodD g P D) (hs : E.Sublist D) : goodD g P E := ⟨h.1.sublist (hs.map _), fun e he => h.2 e (hs.subset he)⟩
theorem qPane_key {g : Int} {a b : Int × Int} {p : Pt} (h1 : qPane g a p = true) (h2 : qPane g b p = true) : a = b := by
  unfold qPane at h1 h2
  rw [decide_eq_true_eq] at h1 h2
  exact Prod.ext (h1.1.symm.trans h2.1) (h1.2.symm.trans h2.2)
theorem fold_panes {g : Int} {P : List Pt} : ∀ (D : List ((Int × Int) × Acc)) (r : Pt → Bool), goodD g P D → (∀ p ∈ P, ∀ e ∈ D, qPane g e.1 p = true → r p = false) →
    D.foldl (fun a e => aboth a e.2) (accP r P) = accP (fun p => r p || D.any (fun e => qPane g e.1 p)) P
  | [], r, _, _ => accP_congr (fun p _ => by simp)
  | e :: D, r, hD, hr => by
    have he : e.2 = accP (qPane g e.1) P := by
      have := hD.2 e (List.mem_cons_self)
      unfold paneF at this
      split at this
      · injection this with this; exact this.symm
      · cases this
    have hn := hD.1
    rw [List.map_cons, List.nodup_cons] at hn
    rw [List.foldl_cons, he, ← accP_or (fun p hp hrp => by
      cases hq : qPane g e.1 p with
      | false => rfl
      | true => have := hr p hp e (List.mem_cons_self) hq; rw [hrp] at this; cases this)]
    rw [fold_panes D _ ⟨hn.2, fun e' he' => hD.2 e' (List.mem_cons_of_mem _ he')⟩ (fun p hp e' he' hq => by
      rw [hr p hp e' (List.mem_cons_of_mem _ he') hq, Bool.false_or]
      cases hq' : qPane g e.1 p with
      | false => rfl
      | true => exact absurd (List.mem_map.2 ⟨e', he', qPane_key hq hq'⟩) hn.1)]
    exact accP_congr (fun p _ => by simp [Bool.or_assoc])
theorem sum_panes {g : Int} {P : List Pt} {D : List ((Int × Int) × Acc)} (hD : goodD g P D) : sumA D = accP (fun p => D.any (fun e => qPane g e.1 p)) P := by
  have h := fold_panes D (fun _ => false) hD (fun _ _ _ _ _ => rfl)
  rw [accP_none (fun _ _ => rfl)] at h
  unfold sumA
  rw [h]
  exact accP_congr (fun p _ => by simp)
/-- One more pane: all is right for 'Join', and the sum is right. -/
theorem sum_one {g : Int} {P : List Pt} {D : List ((Int × Int) × Acc)} {e : (Int × Int) × Acc} (hD : goodD g P (D ++ [e])) (hP : P.length ≤ 1073741824) (h : (Int × Int) × Acc → Bool) (he : h e = true) :
    ajoin (sumA (D.filter h)) e.2 = (aboth (sumA (D.filter h)) e.2, 0) := by
  have hf : (D ++ [e]).filter h = D.filter h ++ [e] := by simp [he]
  have h1 : goodD g P (D.filter h ++ [e]) := by rw [← hf]; exact hD.sub List.filter_sublist
  have h2 : goodD g P (D.filter h) := h1.sub (List.sublist_append_left _ _)
  have h3 := sum_panes h1
  have h4 := sum_panes h2
  have e5 : e.2 = accP (qPane g e.1) P := by
    have := hD.2 e (by simp)
    unfold paneF at this
    split at this
    · injection this with this; exact this.symm
    · cases this
  have h5 : sumA (D.filter h ++ [e]) = aboth (sumA (D.filter h)) e.2 := by simp [sumA, List.foldl_append]
  have o1 := accP_ok (fun p => (D.filter h).any (fun e => qPane g e.1 p)) hP
  have o2 := accP_ok (qPane g e.1) hP
  rw [← h4] at o1
  rw [← e5] at o2
  have c := both_c (wk_ok o1) (wk_ok o2)
  rw [← h5, h3, accP_c] at c
  have := List.length_filter_le (fun p => (D.filter h ++ [e]).any (fun e => qPane g e.1 p)) P
  unfold ajoin
  rw [if_neg (by simp [o1, o2]), if_neg (by omega)]

/-! ### panes and windows -/
def inW (ws we : Int) (b : Int × Int) (p : Pt) : Bool := decide (p.k = b.1 ∧ (b.2, b.2 + ws) ∈ swins p.t ws we)
theorem same_wins {g ws we m t : Int} {q : Int × Int} (hw : wok 2 ws we) (hg : 0 < g) (h1 : g ∣ ws) (h2 : g ∣ we) (hmt : m / g = t / g) (m1 : -1099511627776 ≤ m) (m2 : m ≤ 1099511627776) (t1 : -1099511627776 ≤ t) (t2 : t ≤ 1099511627776) :
    q ∈ swins m ws we ↔ q ∈ swins t ws we := by
  have e1 := mem_wspans hw (by decide) m1 m2 q
  have e2 := mem_wspans hw (by decide) t1 t2 q
  have u : ∀ x, wspans 2 ws we x = swins x ws we := fun x => by unfold wspans; rw [if_neg (by decide)]
  rw [u] at e1 e2
  rw [e1, e2]
  have key : q.1 % evW 2 ws we = 0 → ((q.1 ≤ m ∧ m < q.1 + ws) ↔ (q.1 ≤ t ∧ t < q.1 + ws)) := fun h => by
    have hd : g ∣ q.1 := Int.dvd_trans h2 (Int.dvd_of_emod_eq_zero (by unfold evW at h; rw [if_neg (by decide)] at h; exact h))
    obtain ⟨x, hx⟩ := hd
    obtain ⟨y, hy⟩ := h1
    have a1 : ∀ z, q.1 ≤ z ↔ x ≤ z / g := fun z => by rw [Int.le_ediv_iff_mul_le hg, hx, Int.mul_comm]
    have a2 : ∀ z, z < q.1 + ws ↔ z / g < x + y := fun z => by rw [Int.ediv_lt_iff_lt_mul hg, hx, hy, ← Int.mul_add, Int.mul_comm]
    rw [a1, a1, a2, a2, hmt]
  constructor
  · rintro ⟨a, b, c⟩; exact ⟨a, b, (key b).1 c⟩
  · rintro ⟨a, b, c⟩; exact ⟨a, b, (key b).2 c⟩
theorem pst_max {g t : Int} (hg : 0 < g) (t1 : -1099511627776 ≤ t) : (max (pst g t) (-1099511627776)) / g = t / g ∧ max (pst g t) (-1099511627776) ≤ t := by
  have hd := Int.mul_ediv_add_emod t g
  have hm := Int.emod_nonneg t (show g ≠ 0 by omega)
  have hc : t / g * g = g * (t / g) := Int.mul_comm _ _
  have hle : max (pst g t) (-1099511627776) ≤ t := by unfold pst; omega
  refine ⟨?_, hle⟩
  have h1 : max (pst g t) (-1099511627776) / g ≤ t / g := Int.ediv_le_ediv hg hle
  have h2 : t / g ≤ max (pst g t) (-1099511627776) / g := by
    rw [Int.le_ediv_iff_mul_le hg]
    unfold pst
    omega
  omega
theorem hit_pane {g ws we : Int} {b : Int × Int} {e : (Int × Int) × Acc} {p : Pt} (hw : wok 2 ws we) (hg : 0 < g) (h1 : g ∣ ws) (h2 : g ∣ we) (t1 : -1099511627776 ≤ p.t) (t2 : p.t ≤ 1099511627776) (hq : qPane g e.1 p = true) :
    hitW ws we b e = inW ws we b p := by
  unfold qPane at hq
  rw [decide_eq_true_eq] at hq
  obtain ⟨q1, q2⟩ := hq
  obtain ⟨m1, m2⟩ := pst_max hg t1
  rw [q2] at m1 m2
  unfold hitW inW
  rw [Bool.eq_iff_iff, decide_eq_true_eq, decide_eq_true_eq, q1, same_wins hw hg h1 h2 m1 (by omega) (by omega) t1 t2]
/-- What the map of windows holds when all panes have come. -/
theorem win_final {g ws we : Int} {P : List Pt} {M D : List ((Int × Int) × Acc)} (hw : wok 2 ws we) (hg : 0 < g) (h1 : g ∣ ws) (h2 : g ∣ we) (hP : ∀ p ∈ P, okP p) (hn : (M.map Prod.fst).Nodup) (hl : ∀ k, lookO M k = paneF g P k) (hp : D.Perm M) (b : Int × Int) :
    winF ws we D b = if P.any (inW ws we b) = true then some (accP (inW ws we b) P) else none := by
  have hM : goodD g P M := goodD.of hn hl (List.Sublist.refl _)
  have hD := hM.perm hp.symm
  have hin : ∀ p ∈ P, (D.filter (hitW ws we b)).any (fun e => qPane g e.1 p) = inW ws we b p := fun p hpP => by
    obtain ⟨⟨t1, t2⟩, -⟩ := hP p hpP
    have hk : P.any (qPane g (p.k, pst g p.t)) = true := List.any_eq_true.2 ⟨p, hpP, by simp [qPane]⟩
    have hlk := hl (p.k, pst g p.t)
    unfold paneF at hlk
    rw [if_pos hk] at hlk
    have hmem := hp.mem_iff.2 (look_mem hlk)
    have hqp : qPane g (p.k, pst g p.t) p = true := by simp [qPane]
    rw [Bool.eq_iff_iff, List.any_eq_true]
    constructor
    · rintro ⟨e, he, hq⟩
      rw [List.mem_filter] at he
      rw [← hit_pane hw hg h1 h2 t1 t2 hq]
      exact he.2
    · intro hi
      exact ⟨_, List.mem_filter.2 ⟨hmem, by rw [hit_pane (p := p) hw hg h1 h2 t1 t2 hqp]; exact hi⟩, hqp⟩
  have hany : D.any (hitW ws we b) = P.any (inW ws we b) := by
    rw [Bool.eq_iff_iff, List.any_eq_true, List.any_eq_true]
    constructor
    · rintro ⟨e, he, hh⟩
      have := hD.2 e he
      unfold paneF at this
      split at this
      · rename_i h3
        obtain ⟨p, hpP, hq⟩ := List.any_eq_true.1 h3
        obtain ⟨⟨t1, t2⟩, -⟩ := hP p hpP
        exact ⟨p, hpP, by rw [← hit_pane hw hg h1 h2 t1 t2 hq]; exact hh⟩
      · cases this
    · rintro ⟨p, hpP, hi⟩
      have := hin p hpP
      rw [hi, List.any_eq_true] at this
      obtain ⟨e, he, _⟩ := this
      rw [List.mem_filter] at he
      exact ⟨e, he⟩
  unfold winF
  rw [hany, sum_panes (hD.sub List.filter_sublist), accP_congr hin]

/-- A pane's times. -/
theorem pane_time {g : Int} {P : List Pt} {M : List ((Int × Int) × Acc)} (hg : 0 < g) (hP : ∀ p ∈ P, okP p) (hn : (M.map Prod.fst).Nodup) (hl : ∀ k, lookO M k = paneF g P k) {e : (Int × Int) × Acc} (he : e ∈ M) :
    -1099511627776 ≤ max e.1.2 (-1099511627776) ∧ max e.1.2 (-1099511627776) ≤ 1099511627776 ∧ -1100585369600 ≤ e.1.2 - 1073741824 + g ∧ e.1.2 ≤ 1099511627776 ∨ 1073741824 < g := by
  have h := mem_look hn he
  rw [hl] at h
  unfold paneF at h
  split at h
  · rename_i ha
    obtain ⟨p, hp, hq⟩ := List.any_eq_true.1 ha
    obtain ⟨⟨t1, t2⟩, -⟩ := hP p hp
    unfold qPane at hq
    rw [decide_eq_true_eq] at hq
    have hm := pst_max hg t1
    rw [hq.2] at hm
    have hd := Int.mul_ediv_add_emod p.t g
    have hm2 := Int.emod_lt_of_pos p.t hg
    have hc : p.t / g * g = g * (p.t / g) := Int.mul_comm _ _
    have hs : e.1.2 = p.t / g * g := hq.2.symm
    by_cases hgg : 1073741824 < g
    · exact .inr hgg
    · exact .inl ⟨by omega, by omega, by omega, by omega⟩
  · cases h

/-! ### the entries -/
def entB (ws : Int) (e : (Int × Int) × Acc) : En := mkEn e.1.1 e.1.2 (e.1.2 + ws) e.2 acc0
def ltB (x y : En) : Bool := decide (x.e < y.e ∨ (x.e = y.e ∧ x.k < y.k))
theorem entB_a (ws : Int) (e : (Int × Int) × Acc) : (entB ws e).a = e.2 ∧ (entB ws e).b = acc0 := ⟨rfl, rfl⟩
/-- The windows' keys: of times of records; they are few. -/
theorem win_keys {ws we : Int} {P : List Pt} {M : List ((Int × Int) × Acc)} (hw : wok 2 ws we) (hn : (M.map Prod.fst).Nodup) (hl : ∀ b, lookO M b = if P.any (inW ws we b) = true then some (accP (inW ws we b) P) else none) :
    (∀ e ∈ M, ∃ p ∈ P, inW ws we e.1 p = true ∧ e.2 = accP (inW ws we e.1) P) ∧ M.length ≤ 16 * P.length := by
  have key : ∀ e ∈ M, ∃ p ∈ P, inW ws we e.1 p = true ∧ e.2 = accP (inW ws we e.1) P := fun e he => by
    have := mem_look hn he
    rw [hl] at this
    split at this
    · rename_i h
      obtain ⟨p, h1, h2⟩ := List.any_eq_true.1 h
      injection this with this
      exact ⟨p, h1, h2, this.symm⟩
    · cases this
  refine ⟨key, ?_⟩
  have hs : M.map Prod.fst ⊆ P.flatMap (fun p => (wspans 2 ws we p.t).map (fun q => (p.k, q.1))) := fun b hb => by
    obtain ⟨e, he, rfl⟩ := List.mem_map.1 hb
    obtain ⟨p, h1, h2, _⟩ := key e he
    unfold inW at h2
    rw [decide_eq_true_eq] at h2
    exact List.mem_flatMap.2 ⟨p, h1, List.mem_map.2 ⟨_, (by unfold wspans; rw [if_neg (by decide)]; exact h2.2), Prod.ext h2.1 rfl⟩⟩
  have h1 := List.Nodup.length_le_of_subset hn hs
  rw [List.length_map] at h1
  refine Nat.le_trans h1 ?_
  clear h1 hs key hn hl
  induction P with
  | nil => simp
  | cons p P ih =>
    rw [List.flatMap_cons, List.length_append, List.length_map, List.length_cons]
    have := wspans_16 (t := p.t) hw (by decide)
    omega
theorem inW_iff {ws we : Int} {b : Int × Int} {p : Pt} (hw : wok 2 ws we) (hp : okP p) : inW ws we b p = true ↔ p.k = b.1 ∧ b.2 % we = 0 ∧ b.2 ≤ p.t ∧ p.t < b.2 + ws := by
  have e1 := mem_wspans hw (by decide) hp.1.1 hp.1.2 (b.2, b.2 + ws)
  have u : wspans 2 ws we p.t = swins p.t ws we := by unfold wspans; rw [if_neg (by decide)]
  have ev : evW 2 ws we = we := by unfold evW; rw [if_neg (by decide)]
  rw [u, ev] at e1
  unfold inW
  rw [decide_eq_true_eq, e1]
  simp
/-- The list of entries, sorted, is the store of the records. -/
theorem vals_final {ws we : Int} {P : List Pt} {M D : List ((Int × Int) × Acc)} {l : List En} (hw : wok 2 ws we) (hP : ∀ p ∈ P, okP p) (hd : ∀ p ∈ P, p.d = 0) (h240 : P.length ≤ 240) (hn : (M.map Prod.fst).Nodup)
    (hl : ∀ b, lookO M b = if P.any (inW ws we b) = true then some (accP (inW ws we b) P) else none) (hp : D.Perm M) (hpl : l.Perm (D.map (entB ws))) (hs : l.Pairwise fun a b => ltB b a = false) : allE 2 ws we [] P = some l := by
  obtain ⟨hk, -⟩ := win_keys hw hn hl
  have hpm : l.Perm (M.map (entB ws)) := hpl.trans (hp.map _)
  have hmem : ∀ x, x ∈ l ↔ ∃ e ∈ M, entB ws e = x := fun x => by rw [hpm.mem_iff, List.mem_map]
  have hnd : l.Nodup := by
    rw [hpm.nodup_iff]
    have h1 : (M.map Prod.fst).Nodup := hn
    rw [List.Nodup, List.pairwise_map] at h1 ⊢
    refine h1.imp (fun {a b} hne h => hne ?_)
    have e1 : (entB ws a).k = (entB ws b).k := by rw [h]
    have e2 : (entB ws a).s = (entB ws b).s := by rw [h]
    exact Prod.ext e1 e2
  have hinj : ∀ x ∈ l, ∀ y ∈ l, x.k = y.k → x.s = y.s → x = y := fun x hx y hy h1 h2 => by
    obtain ⟨a, ha, rfl⟩ := (hmem x).1 hx
    obtain ⟨b, hb, rfl⟩ := (hmem y).1 hy
    have e : a.1 = b.1 := Prod.ext h1 h2
    have l1 := mem_look hn ha
    have l2 := mem_look hn hb
    rw [e, l2] at l1
    injection l1 with l1
    have : a = b := Prod.ext e l1.symm
    rw [this]
  have hwin : ∀ x ∈ l, x.e = x.s + ws := fun x hx => by
    obtain ⟨e, _, rfl⟩ := (hmem x).1 hx
    rfl
  have hss : SS l := by
    have h2 := List.Pairwise.and hs hnd
    refine List.Pairwise.imp_of_mem ?_ h2
    rintro a b ha hb ⟨h3, h4⟩
    have e1 := hwin a ha
    have e2 := hwin b hb
    unfold ltB at h3
    rw [decide_eq_false_iff_not] at h3
    rw [enlt_iff]
    by_cases h5 : a.e = b.e
    · have h6 : a.s = b.s := by omega
      have h7 : a.k ≠ b.k := fun h7 => h4 (hinj a ha b hb h7 h6)
      omega
    · omega
  have hinv : InvA 2 ws we P l := by
    unfold InvA
    rw [if_neg (by decide)]
    refine ⟨hss, fun x => ?_⟩
    have hwinN : ∀ (k s e : Int), winN 2 ws we P k (s, e) ↔ e = s + ws ∧ ∃ p ∈ P, inW ws we (k, s) p = true := fun k s e => by
      unfold winN
      constructor
      · rintro ⟨r, hr, h1, h2⟩
        have u : wspans 2 ws we r.t = swins r.t ws we := by unfold wspans; rw [if_neg (by decide)]
        have := (mem_wspans hw (by decide) (hP r hr).1.1 (hP r hr).1.2 (s, e)).1 h2
        have he : e = s + ws := this.1
        subst he
        exact ⟨rfl, r, hr, by unfold inW; rw [decide_eq_true_eq]; exact ⟨h1, by rw [← u]; exact h2⟩⟩
      · rintro ⟨rfl, r, hr, h2⟩
        have u : wspans 2 ws we r.t = swins r.t ws we := by unfold wspans; rw [if_neg (by decide)]
        unfold inW at h2
        rw [decide_eq_true_eq] at h2
        exact ⟨r, hr, h2.1, by rw [u]; exact h2.2⟩
    have hsd : ∀ (b : Int × Int) (x : En), x.k = b.1 → x.s = b.2 → x.e = b.2 + ws → (∃ p ∈ P, inW ws we b p = true) → accP (sideE 0 x) P = accP (inW ws we b) P ∧ accP (sideE 1 x) P = acc0 := fun b x h1 h2 h3 ⟨r, hr, hrw⟩ => by
      have hmod := ((inW_iff hw (hP r hr)).1 hrw).2.1
      refine ⟨accP_congr (fun p hp => ?_), accP_none (fun p hp => ?_)⟩
      · rw [Bool.eq_iff_iff, inW_iff hw (hP p hp)]
        unfold sideE inE
        rw [hd p hp, h1, h2, h3]
        simp only [decide_true, Bool.and_true, decide_eq_true_eq]
        constructor
        · rintro ⟨a, b, c⟩; exact ⟨a, hmod, b, c⟩
        · rintro ⟨a, _, b, c⟩; exact ⟨a, b, c⟩
      · unfold sideE
        rw [hd p hp]
        simp
    rw [hmem x]
    constructor
    · rintro ⟨e, he, rfl⟩
      obtain ⟨p, h1, h2, h3⟩ := hk e he
      obtain ⟨s1, s2⟩ := hsd e.1 (entB ws e) rfl rfl rfl ⟨p, h1, h2⟩
      refine ⟨(hwinN _ _ _).2 ⟨rfl, p, h1, h2⟩, ?_, ?_⟩
      · rw [s1]; exact h3
      · rw [s2]; rfl
    · rintro ⟨h1, h2, h3⟩
      obtain ⟨he, p, hp', hq⟩ := (hwinN _ _ _).1 h1
      have hlk := hl (x.k, x.s)
      rw [if_pos (List.any_eq_true.2 ⟨p, hp', hq⟩)] at hlk
      refine ⟨_, look_mem hlk, ?_⟩
      obtain ⟨s1, s2⟩ := hsd (x.k, x.s) x rfl rfl he ⟨p, hp', hq⟩
      exact en_ext rfl rfl he.symm (by rw [h2, s1]; rfl) (by rw [h3, s2]; rfl)
  obtain ⟨a, a1, a2, -⟩ := all_inv hw P.length P rfl h240 hP
  rw [a1, inv_unique hw.1.1 (List.Perm.refl P) a2 hinv]
end Go.Proofs.Ytbbdepeifdbbdaa
