/- Lemmas and contracts for the statement, joined into one text: TopHyps, PaneParts2, StoreGivenR, StoreGivenA, PaneVals, PanePlain, PaneSort, PaneValsR. The conditions of each stand at its head. -/
import Derived.Test.YtnljihjhmgpcoaaGreatJ26
import Derived.Test.YtnljihjhmgpcoaaGreatJ27
import Derived.Test.YtnljihjhmgpcoaaGreatJ23
import Derived.Test.YtnljihjhmgpcoaaGreatJ6
import Derived.Test.YtnljihjhmgpcoaaGreatJ4
import Derived.Test.YtnljihjhmgpcoaaGreatJ1
import Derived.Test.YtnljihjhmgpcoaaGreatJ12
import Derived.Test.YtnljihjhmgpcoaaGreatJ17
import Derived.Test.YtnljihjhmgpcoaaGreatJ18
import Derived.Shelf.SlSortCmp.WholeK
import Derived.Shelf.SlSortCmp.NoneTotal
namespace Go.Proofs.YtnljihjhmgpcoaaGreat
open Go.RowKit
def evsOk (ls : List (List Evt)) : Prop := ∀ l ∈ ls, l.length ≤ 60 ∧ ∀ x ∈ l, etok x = true
theorem puts_fit {q : Qy} (hq : q.good) {ls : List (List Evt)} (hlen : ls.length = q.src.length) (hev : evsOk ls) : (putsQ q ls).length ≤ 240 ∧ ∀ p ∈ putsQ q ls, okP p := by
 have h4 := hq.src.1.2
 refine ⟨?_, putsF_ok hq.two ls 0 (by omega) (fun l hl => (hev l hl).2)⟩
 have h1 := putsF_len q (n := 60) ls 0 (fun l hl => (hev l hl).1)
 have h2 : ls.length * 60 ≤ 4 * 60 := Nat.mul_le_mul (by omega) (Nat.le_refl _)
 unfold putsQ
 omega
theorem mall_hyps {q : Qy} (hq : q.good) {ls : List (List Evt)} (hlen : ls.length = q.src.length) (hev : evsOk ls) :
  ∃ a, allE q.wk q.ws q.we [] (putsQ q ls) = some a ∧ enchk a = 0 ∧ InvA q.wk q.ws q.we (putsQ q ls) a ∧ a.length ≤ 4000 ∧ ∀ X, X <+: putsQ q ls → ∃ b, allE q.wk q.ws q.we [] X = some b ∧ b.length ≤ 4000 := by
 obtain ⟨h1, h2⟩ := puts_fit hq hlen hev
 obtain ⟨a, a1, a2, a3, a4, a5⟩ := all_inv hq.win _ (putsQ q ls) rfl h1 h2
 have a6 := sumW_16 hq.win (putsQ q ls)
 refine ⟨a, a1, a3, a2, by omega, fun X hX => ?_⟩
 have hl := hX.length_le
 obtain ⟨b, b1, b2, b3, b4, b5⟩ := all_inv hq.win _ X rfl (by omega) (fun p hp => h2 p (hX.subset hp))
 have b6 := sumW_16 hq.win X
 exact ⟨b, b1, by omega⟩
theorem same_rows {q p : Qy} (hq : q.good) (hp : p.good) (h : Qeq q p) {ls : List (List Evt)} (hlen : ls.length = q.src.length) (hev : evsOk ls) {a : List En} (ha : allE q.wk q.ws q.we [] (putsQ q ls) = some a) :
  allE p.wk p.ws p.we [] (putsQ p ls) = some a := by
 obtain ⟨b, hb, -⟩ := mall_hyps hp (ls := ls) (by rw [h.src]; exact hlen) hev
 have e : putsQ p ls = putsQ q ls := puts_eq h ls 0
 rw [e] at hb ⊢
 obtain ⟨h1, h2⟩ := puts_fit hq hlen hev
 rw [hb, same_store hq hp h h1 h2 ha hb]
/-- The query of alive24. -/
def q24 : Qy := ⟨1, none, [1], false, none, 2, 3, 3, false, 1⟩
def ls24 : List (List Evt) := [[⟨false, 0, 0, 4, 0⟩]]
def a24 : List En := [⟨0, 3, 6, 1, 0, 0, 0, 0, 0, 0, 0⟩]
theorem q24_good : q24.good := by
 refine ⟨by decide, .inl rfl, by decide, fun e h => (by cases h), fun e h => (by cases h), ⟨by decide, by decide, by decide⟩, fun h => (by cases h), by decide, fun h => (by cases h)⟩
theorem ls24_ok : evsOk ls24 := by
 intro l hl
 simp only [ls24, List.mem_singleton] at hl
 subst hl
 exact ⟨by decide, by decide⟩
theorem puts24 : putsQ q24 ls24 = [⟨0, 4, 0, 0⟩] := by decide
theorem all24 : allE q24.wk q24.ws q24.we [] (putsQ q24 ls24) = some a24 := by
 rw [puts24]
 have h : addE [] 2 3 3 0 4 0 0 = (a24, 0) := addE_lit val_nil (by decide) (.inl rfl) (by decide) (by decide)
 rw [show q24.wk = 2 from rfl, show q24.ws = 3 from rfl, show q24.we = 3 from rfl, allE_cons h]
 rfl
theorem slchk_zero {k s e : Int} : slchk k s e = 0 ↔ wok k s e ∧ k = 2 := by
 unfold slchk
 by_cases h : wok k s e
 ·rw [if_neg (by simp [h])]
  by_cases hk : k = 2
  ·subst hk; simp [h]
  ·rw [if_neg hk]; simp [hk]
 ·rw [if_pos h]; simp [h]
/-- What the size of panes is. -/
theorem gcd_facts {ws we : Int} (h1 : 0 < ws) (h2 : 0 < we) : ∃ (G n m : Nat), Int.gcd ws we = G ∧ 0 < G ∧ 0 < n ∧ 0 < m ∧ ws = (n : Int) * G ∧ we = (m : Int) * G ∧ ws / (G : Int) = n ∧ ws.tdiv (G : Int) = n := by
 obtain ⟨p, rfl⟩ : ∃ p : Nat, ws = p := ⟨ws.toNat, by omega⟩
 obtain ⟨q, rfl⟩ : ∃ q : Nat, we = q := ⟨we.toNat, by omega⟩
 have hG : 0 < Nat.gcd p q := Nat.gcd_pos_of_pos_left _ (by omega)
 obtain ⟨n, hn⟩ := Nat.gcd_dvd_left p q
 obtain ⟨m, hm⟩ := Nat.gcd_dvd_right p q
 have e1 : (p : Int) = (n : Int) * (Nat.gcd p q : Nat) := by
  have : p = n * Nat.gcd p q := by rw [Nat.mul_comm]; exact hn
  rw [← Int.natCast_mul, ← this]
 have e2 : (q : Int) = (m : Int) * (Nat.gcd p q : Nat) := by
  have : q = m * Nat.gcd p q := by rw [Nat.mul_comm]; exact hm
  rw [← Int.natCast_mul, ← this]
 have hn0 : 0 < n := by
  rcases Nat.eq_zero_or_pos n with h | h
  ·rw [h, Nat.mul_zero] at hn; omega
  ·exact h
 have hm0 : 0 < m := by
  rcases Nat.eq_zero_or_pos m with h | h
  ·rw [h, Nat.mul_zero] at hm; omega
  ·exact h
 have hdiv : (p : Int) / ((Nat.gcd p q : Nat) : Int) = n := by
  have e3 : (p : Int) / ((Nat.gcd p q : Nat) : Int) = ((n : Int) * (Nat.gcd p q : Nat)) / ((Nat.gcd p q : Nat) : Int) := by rw [← e1]
  rw [e3, Int.mul_ediv_cancel _ (by omega)]
 exact ⟨Nat.gcd p q, n, m, rfl, hG, hn0, hm0, e1, e2, hdiv, by rw [Int.tdiv_eq_ediv_of_nonneg (by omega)]; exact hdiv⟩
theorem Rd.apart {α : Type} {enc : α → List Value} {sz : Nat} {w : World} {B : Nat} {A : Option Addr} {l : List α} (h : Rd enc sz w B A l) {p : Addr} (hp : l ≠ [] → ∀ a, A = some a → a.block ≠ p.block) (u : Value) : Rd enc sz (w.setCell p u) B A l := fun hn => by
 obtain ⟨b, off, e, hb, hc⟩ := h hn
 have h1 := hp hn _ e
 refine ⟨b, off, e, hb, fun k x hx j v hu => ?_⟩
 refine (World.cell?_setCell_other _ _ _ _ (fun e' => h1 ?_)).trans (hc k x hx j v hu)
 first
  | rw [e']
  | rw [← e']
/-- Records alone: no side. -/
def rcenc (p : Pt) : List Value := [.int .i64 p.k, .int .i64 p.t, .int .i64 p.v]
def rctok (p : Pt) : Prop := p.d = 0 ∧ (Lit.int .i64 p.v).wf = true
theorem rcenc_len (p : Pt) : (rcenc p).length = 3 := rfl
theorem rc_cells {w : World} {B : Nat} {A : Option Addr} {l : List Pt} (h : Rd rcenc 3 w B A l) {k : Nat} {x : Pt} (hx : l[k]? = some x) :
  ∃ b off, A = some ⟨b, off, none⟩ ∧ b < B ∧ w.cell? ⟨b, off + k * 3, none⟩ = some (.int .i64 x.k) ∧ w.cell? ⟨b, off + k * 3 + 1, none⟩ = some (.int .i64 x.t) ∧ w.cell? ⟨b, off + k * 3 + 2, none⟩ = some (.int .i64 x.v) := by
 obtain ⟨b, off, e, hb, hc⟩ := h.at_ hx
 exact ⟨b, off, e, hb, by simpa using hc 0 _ rfl, hc 1 _ rfl, hc 2 _ rfl⟩
def timeB (p : Pt) : Bool := decide (-1099511627776 ≤ p.t ∧ p.t ≤ 1099511627776)
noncomputable def pvals (k ws we : Int) (l : List Pt) : List En × Int :=
 if slchk k ws we ≠ 0 then ([], slchk k ws we) else if 240 < l.length then ([], 4) else if l.all timeB = true then ((allE k ws we [] l).getD [], 0) else ([], 16)
theorem rec_info : (Tryz.prog.info? 47).map (fun i => (i.zero, i.size, i.bytes)) = some (some (.agg #[.int .i64 0, .int .i64 0, .int .i64 0]), 3, 24) := by kernel_rfl
def pst (g t : Int) : Int := t / g * g
def qPane (g : Int) (a : Int × Int) (p : Pt) : Bool := decide (p.k = a.1 ∧ pst g p.t = a.2)
def paneF (g : Int) (P : List Pt) (a : Int × Int) : Option Acc := if P.any (qPane g a) = true then some (accP (qPane g a) P) else none
theorem any_false {α : Type} {q : α → Bool} {l : List α} (h : ¬ l.any q = true) : ∀ p ∈ l, q p = false := fun p hp => by
 cases hq : q p with
 | false => rfl
 | true => exact absurd (List.any_eq_true.2 ⟨p, hp, hq⟩) h
theorem paneF_nil (g : Int) : paneF g [] = fun _ => none := by funext a; simp [paneF]
theorem paneF_get (g : Int) (P : List Pt) (a : Int × Int) : (paneF g P a).getD acc0 = accP (qPane g a) P := by
 unfold paneF
 split
 ·rfl
 ·rename_i h
  rw [accP_none (any_false h)]
  rfl
theorem paneF_snoc (g : Int) (P : List Pt) (p : Pt) : (fun k' => if k' = (p.k, pst g p.t) then some (aboth (accP (qPane g (p.k, pst g p.t)) P) (accV p.v)) else paneF g P k') = paneF g (P ++ [p]) := by
 funext k'
 unfold paneF
 rw [List.any_append, accP_snoc]
 by_cases h : k' = (p.k, pst g p.t)
 ·subst h
  have : qPane g (p.k, pst g p.t) p = true := by simp [qPane]
  simp [this]
 ·have : qPane g k' p = false := by
   unfold qPane; rw [decide_eq_false_iff_not]; rintro ⟨h1, h2⟩; exact h (Prod.ext h1.symm h2.symm)
  simp [this, h]
def hitW (ws we : Int) (b : Int × Int) (e : (Int × Int) × Acc) : Bool := decide (e.1.1 = b.1 ∧ (b.2, b.2 + ws) ∈ swins (max e.1.2 (-1099511627776)) ws we)
def sumA (D : List ((Int × Int) × Acc)) : Acc := D.foldl (fun a e => aboth a e.2) acc0
def winF (ws we : Int) (D : List ((Int × Int) × Acc)) (b : Int × Int) : Option Acc := if D.any (hitW ws we b) = true then some (sumA (D.filter (hitW ws we b))) else none
def midF (ws we : Int) (D : List ((Int × Int) × Acc)) (e : (Int × Int) × Acc) (T : List (Int × Int)) (b : Int × Int) : Option Acc :=
 if b.1 = e.1.1 ∧ (b.2, b.2 + ws) ∈ T then some (aboth (sumA (D.filter (hitW ws we b))) e.2) else winF ws we D b
theorem winF_nil (ws we : Int) : winF ws we [] = fun _ => none := by funext a; simp [winF]
theorem winF_get (ws we : Int) (D : List ((Int × Int) × Acc)) (b : Int × Int) : (winF ws we D b).getD acc0 = sumA (D.filter (hitW ws we b)) := by
 unfold winF
 split
 ·rfl
 ·rename_i h
  rw [List.filter_eq_nil_iff.2 (fun x hx => by rw [any_false h x hx]; simp)]
  rfl
theorem midF_nil (ws we : Int) (D : List ((Int × Int) × Acc)) (e : (Int × Int) × Acc) : midF ws we D e [] = winF ws we D := by funext b; simp [midF]
theorem midF_get {ws we : Int} {D : List ((Int × Int) × Acc)} {e : (Int × Int) × Acc} {T : List (Int × Int)} {b : Int × Int} (h : (b.2, b.2 + ws) ∉ T) : (midF ws we D e T b).getD acc0 = sumA (D.filter (hitW ws we b)) := by
 unfold midF
 rw [if_neg (fun hh => h hh.2), winF_get]
theorem midF_snoc {ws we : Int} {D : List ((Int × Int) × Acc)} {e : (Int × Int) × Acc} {T : List (Int × Int)} {q : Int × Int} (hq : q.2 = q.1 + ws) (c : Acc) (hc : c = aboth (sumA (D.filter (hitW ws we (e.1.1, q.1)))) e.2) :
  (fun k' => if k' = (e.1.1, q.1) then some c else midF ws we D e T k') = midF ws we D e (T ++ [q]) := by
 subst hc
 funext k'
 unfold midF
 by_cases h : k' = (e.1.1, q.1)
 ·subst h
  have : (q.1, q.1 + ws) = q := Prod.ext rfl hq.symm
  simp [this]
 ·have : ∀ x, (k'.1 = e.1.1 ∧ (k'.2, k'.2 + ws) = q ∧ x) → False := fun x ⟨h1, h2, _⟩ => h (Prod.ext h1 (by rw [← h2]))
  rw [if_neg h]
  congr 1
  simp only [List.mem_append, List.mem_singleton, eq_iff_iff]
  constructor
  ·rintro ⟨h1, h2⟩; exact ⟨h1, .inl h2⟩
  ·rintro ⟨h1, h2 | h2⟩
   ·exact ⟨h1, h2⟩
   ·exact (this True ⟨h1, h2, trivial⟩).elim
theorem midF_all (ws we : Int) (D : List ((Int × Int) × Acc)) (e : (Int × Int) × Acc) : midF ws we D e (swins (max e.1.2 (-1099511627776)) ws we) = winF ws we (D ++ [e]) := by
 funext b
 unfold midF winF
 rw [List.any_append, List.filter_append]
 by_cases h : hitW ws we b e = true
 ·have h' := h
  unfold hitW at h'
  rw [decide_eq_true_eq] at h'
  rw [if_pos ⟨h'.1.symm, h'.2⟩, if_pos (by simp [h])]
  simp [h, sumA, List.foldl_append]
 ·have h' : hitW ws we b e = false := by simpa using h
  have hn : ¬ (b.1 = e.1.1 ∧ (b.2, b.2 + ws) ∈ swins (max e.1.2 (-1099511627776)) ws we) := by
   rintro ⟨h1, h2⟩
   unfold hitW at h'
   rw [decide_eq_false_iff_not] at h'
   exact h' ⟨h1.symm, h2⟩
  have e1 : [e].any (hitW ws we b) = false := by rw [List.any_cons, h']; rfl
  have e2 : [e].filter (hitW ws we b) = [] := by rw [List.filter_cons, h']; rfl
  rw [if_neg hn, e1, e2, Bool.or_false, List.append_nil]
/-- A list of panes, each of its own key, each with its records. -/
def goodD (g : Int) (P : List Pt) (D : List ((Int × Int) × Acc)) : Prop := (D.map Prod.fst).Nodup ∧ ∀ e ∈ D, paneF g P e.1 = some e.2
theorem goodD.of {g : Int} {P : List Pt} {M D : List ((Int × Int) × Acc)} (hn : (M.map Prod.fst).Nodup) (hl : ∀ k, lookO M k = paneF g P k) (hs : D.Sublist M) : goodD g P D := by
 refine ⟨hn.sublist (hs.map _), fun e he => ?_⟩
 have he' := hs.subset he
 rw [← hl]
 clear hl hs he
 induction M with
 | nil => cases he'
 | cons x M ih =>
  rw [List.map_cons, List.nodup_cons] at hn
  rcases List.mem_cons.1 he' with rfl | h
  ·simp [lookO]
  ·have hne : e.1 ≠ x.1 := fun h1 => hn.1 (by rw [← h1]; exact List.mem_map.2 ⟨e, h, rfl⟩)
   have := ih hn.2 h
   simpa [lookO, hne] using this
theorem look_mem {M : List ((Int × Int) × Acc)} {k : Int × Int} {a : Acc} (h : lookO M k = some a) : (k, a) ∈ M := by
 unfold lookO at h
 cases hf : M.find? (fun p => decide (k = p.1)) with
 | none => rw [hf] at h; cases h
 | some x =>
  rw [hf] at h
  have h1 := List.find?_some hf
  have h2 := List.mem_of_find?_eq_some hf
  simp only [decide_eq_true_eq] at h1
  simp only [Option.map_some, Option.some.injEq] at h
  rw [← h, h1]
  exact h2
theorem mem_look {M : List ((Int × Int) × Acc)} (hn : (M.map Prod.fst).Nodup) {e : (Int × Int) × Acc} (h : e ∈ M) : lookO M e.1 = some e.2 := by
 induction M with
 | nil => cases h
 | cons x M ih =>
  rw [List.map_cons, List.nodup_cons] at hn
  rcases List.mem_cons.1 h with rfl | h
  ·simp [lookO]
  ·have hne : e.1 ≠ x.1 := fun h1 => hn.1 (by rw [← h1]; exact List.mem_map.2 ⟨e, h, rfl⟩)
   have := ih hn.2 h
   simpa [lookO, hne] using this
theorem goodD.perm {g : Int} {P : List Pt} {D E : List ((Int × Int) × Acc)} (h : goodD g P D) (hp : D.Perm E) : goodD g P E := ⟨(hp.map _).nodup_iff.1 h.1, fun e he => h.2 e (hp.mem_iff.2 he)⟩
theorem goodD.sub {g : Int} {P : List Pt} {D E : List ((Int × Int) × Acc)} (h : goodD g P D) (hs : E.Sublist D) : goodD g P E := ⟨h.1.sublist (hs.map _), fun e he => h.2 e (hs.subset he)⟩
theorem qPane_key {g : Int} {a b : Int × Int} {p : Pt} (h1 : qPane g a p = true) (h2 : qPane g b p = true) : a = b := by
 unfold qPane at h1 h2
 rw [decide_eq_true_eq] at h1 h2
 exact Prod.ext (h1.1.symm.trans h2.1) (h1.2.symm.trans h2.2)
theorem fold_panes {g : Int} {P : List Pt} : ∀ (D : List ((Int × Int) × Acc)) (r : Pt → Bool), goodD g P D → (∀ p ∈ P, ∀ e ∈ D, qPane g e.1 p = true → r p = false) →
  D.foldl (fun a e => aboth a e.2) (accP r P) = accP (fun p => r p || D.any (fun e => qPane g e.1 p)) P
 | [], r, _, _ => accP_congr (fun p _ => by simp)
 | e :: D, r, hD, hr => by
  have he : e.2 = accP (qPane g e.1) P := by
   have := hD.2 e (List.mem_cons_self)
   unfold paneF at this
   split at this
   ·injection this with this; exact this.symm
   ·cases this
  have hn := hD.1
  rw [List.map_cons, List.nodup_cons] at hn
  rw [List.foldl_cons, he, ← accP_or (fun p hp hrp => by
   cases hq : qPane g e.1 p with
   | false => rfl
   | true => have := hr p hp e (List.mem_cons_self) hq; rw [hrp] at this; cases this)]
  rw [fold_panes D _ ⟨hn.2, fun e' he' => hD.2 e' (List.mem_cons_of_mem _ he')⟩ (fun p hp e' he' hq => by
   rw [hr p hp e' (List.mem_cons_of_mem _ he') hq, Bool.false_or]
   cases hq' : qPane g e.1 p with
   | false => rfl
   | true => exact absurd (List.mem_map.2 ⟨e', he', qPane_key hq hq'⟩) hn.1)]
  exact accP_congr (fun p _ => by simp [Bool.or_assoc])
theorem sum_panes {g : Int} {P : List Pt} {D : List ((Int × Int) × Acc)} (hD : goodD g P D) : sumA D = accP (fun p => D.any (fun e => qPane g e.1 p)) P := by
 have h := fold_panes D (fun _ => false) hD (fun _ _ _ _ _ => rfl)
 rw [accP_none (fun _ _ => rfl)] at h
 unfold sumA
 rw [h]
 exact accP_congr (fun p _ => by simp)
/-- One more pane: all is right for 'Join', and the sum is right. -/
theorem sum_one {g : Int} {P : List Pt} {D : List ((Int × Int) × Acc)} {e : (Int × Int) × Acc} (hD : goodD g P (D ++ [e])) (hP : P.length ≤ 1073741824) (h : (Int × Int) × Acc → Bool) (he : h e = true) :
  ajoin (sumA (D.filter h)) e.2 = (aboth (sumA (D.filter h)) e.2, 0) := by
 have hf : (D ++ [e]).filter h = D.filter h ++ [e] := by simp [he]
 have h1 : goodD g P (D.filter h ++ [e]) := by rw [← hf]; exact hD.sub List.filter_sublist
 have h2 : goodD g P (D.filter h) := h1.sub (List.sublist_append_left _ _)
 have h3 := sum_panes h1
 have h4 := sum_panes h2
 have e5 : e.2 = accP (qPane g e.1) P := by
  have := hD.2 e (by simp)
  unfold paneF at this
  split at this
  ·injection this with this; exact this.symm
  ·cases this
 have h5 : sumA (D.filter h ++ [e]) = aboth (sumA (D.filter h)) e.2 := by simp [sumA, List.foldl_append]
 have o1 := accP_ok (fun p => (D.filter h).any (fun e => qPane g e.1 p)) hP
 have o2 := accP_ok (qPane g e.1) hP
 rw [← h4] at o1
 rw [← e5] at o2
 have c := both_c (wk_ok o1) (wk_ok o2)
 rw [← h5, h3, accP_c] at c
 have := List.length_filter_le (fun p => (D.filter h ++ [e]).any (fun e => qPane g e.1 p)) P
 unfold ajoin
 rw [if_neg (by simp [o1, o2]), if_neg (by omega)]
def inW (ws we : Int) (b : Int × Int) (p : Pt) : Bool := decide (p.k = b.1 ∧ (b.2, b.2 + ws) ∈ swins p.t ws we)
theorem same_wins {g ws we m t : Int} {q : Int × Int} (hw : wok 2 ws we) (hg : 0 < g) (h1 : g ∣ ws) (h2 : g ∣ we) (hmt : m / g = t / g) (m1 : -1099511627776 ≤ m) (m2 : m ≤ 1099511627776) (t1 : -1099511627776 ≤ t) (t2 : t ≤ 1099511627776) :
  q ∈ swins m ws we ↔ q ∈ swins t ws we := by
 have e1 := mem_wspans hw (by decide) m1 m2 q
 have e2 := mem_wspans hw (by decide) t1 t2 q
 have u : ∀ x, wspans 2 ws we x = swins x ws we := fun x => by unfold wspans; rw [if_neg (by decide)]
 rw [u] at e1 e2
 rw [e1, e2]
 have key : q.1 % evW 2 ws we = 0 → ((q.1 ≤ m ∧ m < q.1 + ws) ↔ (q.1 ≤ t ∧ t < q.1 + ws)) := fun h => by
  have hd : g ∣ q.1 := Int.dvd_trans h2 (Int.dvd_of_emod_eq_zero (by unfold evW at h; rw [if_neg (by decide)] at h; exact h))
  obtain ⟨x, hx⟩ := hd
  obtain ⟨y, hy⟩ := h1
  have a1 : ∀ z, q.1 ≤ z ↔ x ≤ z / g := fun z => by rw [Int.le_ediv_iff_mul_le hg, hx, Int.mul_comm]
  have a2 : ∀ z, z < q.1 + ws ↔ z / g < x + y := fun z => by rw [Int.ediv_lt_iff_lt_mul hg, hx, hy, ← Int.mul_add, Int.mul_comm]
  rw [a1, a1, a2, a2, hmt]
 constructor
 ·rintro ⟨a, b, c⟩; exact ⟨a, b, (key b).1 c⟩
 ·rintro ⟨a, b, c⟩; exact ⟨a, b, (key b).2 c⟩
theorem pst_max {g t : Int} (hg : 0 < g) (t1 : -1099511627776 ≤ t) : (max (pst g t) (-1099511627776)) / g = t / g ∧ max (pst g t) (-1099511627776) ≤ t := by
 have hd := Int.mul_ediv_add_emod t g
 have hm := Int.emod_nonneg t (show g ≠ 0 by omega)
 have hc : t / g * g = g * (t / g) := Int.mul_comm _ _
 have hle : max (pst g t) (-1099511627776) ≤ t := by unfold pst; omega
 refine ⟨?_, hle⟩
 have h1 : max (pst g t) (-1099511627776) / g ≤ t / g := Int.ediv_le_ediv hg hle
 have h2 : t / g ≤ max (pst g t) (-1099511627776) / g := by
  rw [Int.le_ediv_iff_mul_le hg]
  unfold pst
  omega
 omega
theorem hit_pane {g ws we : Int} {b : Int × Int} {e : (Int × Int) × Acc} {p : Pt} (hw : wok 2 ws we) (hg : 0 < g) (h1 : g ∣ ws) (h2 : g ∣ we) (t1 : -1099511627776 ≤ p.t) (t2 : p.t ≤ 1099511627776) (hq : qPane g e.1 p = true) :
  hitW ws we b e = inW ws we b p := by
 unfold qPane at hq
 rw [decide_eq_true_eq] at hq
 obtain ⟨q1, q2⟩ := hq
 obtain ⟨m1, m2⟩ := pst_max hg t1
 rw [q2] at m1 m2
 unfold hitW inW
 rw [Bool.eq_iff_iff, decide_eq_true_eq, decide_eq_true_eq, q1, same_wins hw hg h1 h2 m1 (by omega) (by omega) t1 t2]
/-- What the map of windows holds when all panes have come. -/
theorem win_final {g ws we : Int} {P : List Pt} {M D : List ((Int × Int) × Acc)} (hw : wok 2 ws we) (hg : 0 < g) (h1 : g ∣ ws) (h2 : g ∣ we) (hP : ∀ p ∈ P, okP p) (hn : (M.map Prod.fst).Nodup) (hl : ∀ k, lookO M k = paneF g P k) (hp : D.Perm M) (b : Int × Int) :
  winF ws we D b = if P.any (inW ws we b) = true then some (accP (inW ws we b) P) else none := by
 have hM : goodD g P M := goodD.of hn hl (List.Sublist.refl _)
 have hD := hM.perm hp.symm
 have hin : ∀ p ∈ P, (D.filter (hitW ws we b)).any (fun e => qPane g e.1 p) = inW ws we b p := fun p hpP => by
  obtain ⟨⟨t1, t2⟩, -⟩ := hP p hpP
  have hk : P.any (qPane g (p.k, pst g p.t)) = true := List.any_eq_true.2 ⟨p, hpP, by simp [qPane]⟩
  have hlk := hl (p.k, pst g p.t)
  unfold paneF at hlk
  rw [if_pos hk] at hlk
  have hmem := hp.mem_iff.2 (look_mem hlk)
  have hqp : qPane g (p.k, pst g p.t) p = true := by simp [qPane]
  rw [Bool.eq_iff_iff, List.any_eq_true]
  constructor
  ·rintro ⟨e, he, hq⟩
   rw [List.mem_filter] at he
   rw [← hit_pane hw hg h1 h2 t1 t2 hq]
   exact he.2
  ·intro hi
   exact ⟨_, List.mem_filter.2 ⟨hmem, by rw [hit_pane (p := p) hw hg h1 h2 t1 t2 hqp]; exact hi⟩, hqp⟩
 have hany : D.any (hitW ws we b) = P.any (inW ws we b) := by
  rw [Bool.eq_iff_iff, List.any_eq_true, List.any_eq_true]
  constructor
  ·rintro ⟨e, he, hh⟩
   have := hD.2 e he
   unfold paneF at this
   split at this
   ·rename_i h3
    obtain ⟨p, hpP, hq⟩ := List.any_eq_true.1 h3
    obtain ⟨⟨t1, t2⟩, -⟩ := hP p hpP
    exact ⟨p, hpP, by rw [← hit_pane hw hg h1 h2 t1 t2 hq]; exact hh⟩
   ·cases this
  ·rintro ⟨p, hpP, hi⟩
   have := hin p hpP
   rw [hi, List.any_eq_true] at this
   obtain ⟨e, he, _⟩ := this
   rw [List.mem_filter] at he
   exact ⟨e, he⟩
 unfold winF
 rw [hany, sum_panes (hD.sub List.filter_sublist), accP_congr hin]
/-- A pane's times. -/
theorem pane_time {g : Int} {P : List Pt} {M : List ((Int × Int) × Acc)} (hg : 0 < g) (hP : ∀ p ∈ P, okP p) (hn : (M.map Prod.fst).Nodup) (hl : ∀ k, lookO M k = paneF g P k) {e : (Int × Int) × Acc} (he : e ∈ M) :
  -1099511627776 ≤ max e.1.2 (-1099511627776) ∧ max e.1.2 (-1099511627776) ≤ 1099511627776 ∧ -1100585369600 ≤ e.1.2 - 1073741824 + g ∧ e.1.2 ≤ 1099511627776 ∨ 1073741824 < g := by
 have h := mem_look hn he
 rw [hl] at h
 unfold paneF at h
 split at h
 ·rename_i ha
  obtain ⟨p, hp, hq⟩ := List.any_eq_true.1 ha
  obtain ⟨⟨t1, t2⟩, -⟩ := hP p hp
  unfold qPane at hq
  rw [decide_eq_true_eq] at hq
  have hm := pst_max hg t1
  rw [hq.2] at hm
  have hd := Int.mul_ediv_add_emod p.t g
  have hm2 := Int.emod_lt_of_pos p.t hg
  have hc : p.t / g * g = g * (p.t / g) := Int.mul_comm _ _
  have hs : e.1.2 = p.t / g * g := hq.2.symm
  by_cases hgg : 1073741824 < g
  ·exact .inr hgg
  ·exact .inl ⟨by omega, by omega, by omega, by omega⟩
 ·cases h
def entB (ws : Int) (e : (Int × Int) × Acc) : En := mkEn e.1.1 e.1.2 (e.1.2 + ws) e.2 acc0
def ltB (x y : En) : Bool := decide (x.e < y.e ∨ (x.e = y.e ∧ x.k < y.k))
/-- The windows' keys: of times of records; they are few. -/
theorem win_keys {ws we : Int} {P : List Pt} {M : List ((Int × Int) × Acc)} (hw : wok 2 ws we) (hn : (M.map Prod.fst).Nodup) (hl : ∀ b, lookO M b = if P.any (inW ws we b) = true then some (accP (inW ws we b) P) else none) :
  (∀ e ∈ M, ∃ p ∈ P, inW ws we e.1 p = true ∧ e.2 = accP (inW ws we e.1) P) ∧ M.length ≤ 16 * P.length := by
 have key : ∀ e ∈ M, ∃ p ∈ P, inW ws we e.1 p = true ∧ e.2 = accP (inW ws we e.1) P := fun e he => by
  have := mem_look hn he
  rw [hl] at this
  split at this
  ·rename_i h
   obtain ⟨p, h1, h2⟩ := List.any_eq_true.1 h
   injection this with this
   exact ⟨p, h1, h2, this.symm⟩
  ·cases this
 refine ⟨key, ?_⟩
 have hs : M.map Prod.fst ⊆ P.flatMap (fun p => (wspans 2 ws we p.t).map (fun q => (p.k, q.1))) := fun b hb => by
  obtain ⟨e, he, rfl⟩ := List.mem_map.1 hb
  obtain ⟨p, h1, h2, _⟩ := key e he
  unfold inW at h2
  rw [decide_eq_true_eq] at h2
  exact List.mem_flatMap.2 ⟨p, h1, List.mem_map.2 ⟨_, (by unfold wspans; rw [if_neg (by decide)]; exact h2.2), Prod.ext h2.1 rfl⟩⟩
 have h1 := List.Nodup.length_le_of_subset hn hs
 rw [List.length_map] at h1
 refine Nat.le_trans h1 ?_
 clear h1 hs key hn hl
 induction P with
 | nil => simp
 | cons p P ih =>
  rw [List.flatMap_cons, List.length_append, List.length_map, List.length_cons]
  have := wspans_16 (t := p.t) hw (by decide)
  omega
theorem inW_iff {ws we : Int} {b : Int × Int} {p : Pt} (hw : wok 2 ws we) (hp : okP p) : inW ws we b p = true ↔ p.k = b.1 ∧ b.2 % we = 0 ∧ b.2 ≤ p.t ∧ p.t < b.2 + ws := by
 have e1 := mem_wspans hw (by decide) hp.1.1 hp.1.2 (b.2, b.2 + ws)
 have u : wspans 2 ws we p.t = swins p.t ws we := by unfold wspans; rw [if_neg (by decide)]
 have ev : evW 2 ws we = we := by unfold evW; rw [if_neg (by decide)]
 rw [u, ev] at e1
 unfold inW
 rw [decide_eq_true_eq, e1]
 simp
/-- The list of entries, sorted, is the store of the records. -/
theorem vals_final {ws we : Int} {P : List Pt} {M D : List ((Int × Int) × Acc)} {l : List En} (hw : wok 2 ws we) (hP : ∀ p ∈ P, okP p) (hd : ∀ p ∈ P, p.d = 0) (h240 : P.length ≤ 240) (hn : (M.map Prod.fst).Nodup)
  (hl : ∀ b, lookO M b = if P.any (inW ws we b) = true then some (accP (inW ws we b) P) else none) (hp : D.Perm M) (hpl : l.Perm (D.map (entB ws))) (hs : l.Pairwise fun a b => ltB b a = false) : allE 2 ws we [] P = some l := by
 obtain ⟨hk, -⟩ := win_keys hw hn hl
 have hpm : l.Perm (M.map (entB ws)) := hpl.trans (hp.map _)
 have hmem : ∀ x, x ∈ l ↔ ∃ e ∈ M, entB ws e = x := fun x => by rw [hpm.mem_iff, List.mem_map]
 have hnd : l.Nodup := by
  rw [hpm.nodup_iff]
  have h1 : (M.map Prod.fst).Nodup := hn
  rw [List.Nodup, List.pairwise_map] at h1 ⊢
  refine h1.imp (fun {a b} hne h => hne ?_)
  have e1 : (entB ws a).k = (entB ws b).k := by rw [h]
  have e2 : (entB ws a).s = (entB ws b).s := by rw [h]
  exact Prod.ext e1 e2
 have hinj : ∀ x ∈ l, ∀ y ∈ l, x.k = y.k → x.s = y.s → x = y := fun x hx y hy h1 h2 => by
  obtain ⟨a, ha, rfl⟩ := (hmem x).1 hx
  obtain ⟨b, hb, rfl⟩ := (hmem y).1 hy
  have e : a.1 = b.1 := Prod.ext h1 h2
  have l1 := mem_look hn ha
  have l2 := mem_look hn hb
  rw [e, l2] at l1
  injection l1 with l1
  have : a = b := Prod.ext e l1.symm
  rw [this]
 have hwin : ∀ x ∈ l, x.e = x.s + ws := fun x hx => by
  obtain ⟨e, _, rfl⟩ := (hmem x).1 hx
  rfl
 have hss : SS l := by
  have h2 := List.Pairwise.and hs hnd
  refine List.Pairwise.imp_of_mem ?_ h2
  rintro a b ha hb ⟨h3, h4⟩
  have e1 := hwin a ha
  have e2 := hwin b hb
  unfold ltB at h3
  rw [decide_eq_false_iff_not] at h3
  rw [enlt_iff]
  by_cases h5 : a.e = b.e
  ·have h6 : a.s = b.s := by omega
   have h7 : a.k ≠ b.k := fun h7 => h4 (hinj a ha b hb h7 h6)
   omega
  ·omega
 have hinv : InvA 2 ws we P l := by
  unfold InvA
  rw [if_neg (by decide)]
  refine ⟨hss, fun x => ?_⟩
  have hwinN : ∀ (k s e : Int), winN 2 ws we P k (s, e) ↔ e = s + ws ∧ ∃ p ∈ P, inW ws we (k, s) p = true := fun k s e => by
   unfold winN
   constructor
   ·rintro ⟨r, hr, h1, h2⟩
    have u : wspans 2 ws we r.t = swins r.t ws we := by unfold wspans; rw [if_neg (by decide)]
    have := (mem_wspans hw (by decide) (hP r hr).1.1 (hP r hr).1.2 (s, e)).1 h2
    have he : e = s + ws := this.1
    subst he
    exact ⟨rfl, r, hr, by unfold inW; rw [decide_eq_true_eq]; exact ⟨h1, by rw [← u]; exact h2⟩⟩
   ·rintro ⟨rfl, r, hr, h2⟩
    have u : wspans 2 ws we r.t = swins r.t ws we := by unfold wspans; rw [if_neg (by decide)]
    unfold inW at h2
    rw [decide_eq_true_eq] at h2
    exact ⟨r, hr, h2.1, by rw [u]; exact h2.2⟩
  have hsd : ∀ (b : Int × Int) (x : En), x.k = b.1 → x.s = b.2 → x.e = b.2 + ws → (∃ p ∈ P, inW ws we b p = true) → accP (sideE 0 x) P = accP (inW ws we b) P ∧ accP (sideE 1 x) P = acc0 := fun b x h1 h2 h3 ⟨r, hr, hrw⟩ => by
   have hmod := ((inW_iff hw (hP r hr)).1 hrw).2.1
   refine ⟨accP_congr (fun p hp => ?_), accP_none (fun p hp => ?_)⟩
   ·rw [Bool.eq_iff_iff, inW_iff hw (hP p hp)]
    unfold sideE inE
    rw [hd p hp, h1, h2, h3]
    simp only [decide_true, Bool.and_true, decide_eq_true_eq]
    constructor
    ·rintro ⟨a, b, c⟩; exact ⟨a, hmod, b, c⟩
    ·rintro ⟨a, _, b, c⟩; exact ⟨a, b, c⟩
   ·unfold sideE
    rw [hd p hp]
    simp
  rw [hmem x]
  constructor
  ·rintro ⟨e, he, rfl⟩
   obtain ⟨p, h1, h2, h3⟩ := hk e he
   obtain ⟨s1, s2⟩ := hsd e.1 (entB ws e) rfl rfl rfl ⟨p, h1, h2⟩
   refine ⟨(hwinN _ _ _).2 ⟨rfl, p, h1, h2⟩, ?_, ?_⟩
   ·rw [s1]; exact h3
   ·rw [s2]; rfl
  ·rintro ⟨h1, h2, h3⟩
   obtain ⟨he, p, hp', hq⟩ := (hwinN _ _ _).1 h1
   have hlk := hl (x.k, x.s)
   rw [if_pos (List.any_eq_true.2 ⟨p, hp', hq⟩)] at hlk
   refine ⟨_, look_mem hlk, ?_⟩
   obtain ⟨s1, s2⟩ := hsd (x.k, x.s) x rfl rfl he ⟨p, hp', hq⟩
   exact en_ext rfl rfl he.symm (by rw [h2, s1]; rfl) (by rw [h3, s2]; rfl)
 obtain ⟨a, a1, a2, -⟩ := all_inv hw P.length P rfl h240 hP
 rw [a1, inv_unique hw.1.1 (List.Perm.refl P) a2 hinv]
end Go.Proofs.YtnljihjhmgpcoaaGreat
namespace Go.Proofs.YtnljihjhmgpcoaaGreat
open Go.RowKit Go.Sort Go.Shelf
def bcmp (x y : En) : Int := orL [cmpI x.e y.e, cmpI x.k y.k]
theorem ltBc (x y : En) : ltOf bcmp x y = ltB x y := by
 unfold ltOf bcmp ltB
 rw [decide_eq_decide]
 unfold orL orL orL cmpI
 grind
theorem swoB : SWO (ltOf bcmp) where
 irrefl x := by rw [ltBc]; simp [ltB]
 trans x y z h1 h2 := by rw [ltBc] at *; simp only [ltB, decide_eq_true_eq] at *; omega
 ntrans x y z h1 h2 := by rw [ltBc] at *; simp only [ltB, decide_eq_false_iff_not] at *; omega
set_option maxHeartbeats 4000000 in
set_option maxRecDepth 100000 in
theorem cloB_any (a b : En) (W : World) : Calls Tryz.prog 41 #[.agg #[.int .i64 a.k, .int .i64 a.s, .int .i64 a.e, .int .i64 a.c1, .int .i64 a.s1, .int .i64 a.m1, .int .i64 a.x1, .int .i64 a.c2, .int .i64 a.s2, .int .i64 a.m2, .int .i64 a.x2], .agg #[.int .i64 b.k, .int .i64 b.s, .int .i64 b.e, .int .i64 b.c1, .int .i64 b.s1, .int .i64 b.m1, .int .i64 b.x1, .int .i64 b.c2, .int .i64 b.s2, .int .i64 b.m2, .int .i64 b.x2]] W fun e w' => e = .returned (.int .i64 (bcmp a b)) ∧ ∃ q os', w' = grow (W.drewN q) os' := by
 have hor := Lib.hid (show orL [cmpI a.e b.e, cmpI a.k b.k] = bcmp a b from rfl)
 go_enter Tryz.func41, Tryz.ntmps41
 go_wp2_with fail
 refine region_still_tail 12 (by kernel_rfl) (by kernel_rfl) ?_
 simp only [List.take_succ_cons, List.take_zero, List.drop_succ_cons, List.drop_zero]
 repeat still_step
 still_call (cmp_still _ _ _)
 repeat still_step
 still_call (cmp_still _ _ _)
 repeat still_step
 refine wpStill_nil ?_
 go_wp2_with (first
   | (go_at_call 42; refine (or2 (cmpI a.e b.e) (cmpI a.k b.k) _ _ (by simp) (by go_simp) (by go_simp)).mono ?_; rintro e w1 ⟨rfl, rfl⟩))
 go_ret
 exact ⟨ret_i64 hor.out, 1, _, by rw [alloc_eq_grow, alloc_eq_grow, alloc_eq_grow, grow_grow, grow_grow]; rfl⟩
theorem en_agg (w : World) : (isAgg 62).run Tryz.prog w = .ok true w := by kernel_rfl
theorem en_size (w : World) : (Go.sizeOf 62).run Tryz.prog w = .ok 11 w := by kernel_rfl
set_option maxHeartbeats 2000000 in
/-- Entries sorted by their ends and keys, in place. -/
theorem sortB_any (g n cap base : Nat) (l : List En) (w : World) (hl : l.length = n) (hn : n ≤ 1099511627776) (hown : Own enenc 11 w base 62 (.slice (some ⟨g, 0, none⟩) n cap) l) :
  Calls Tryz.prog 40 #[.slice (some ⟨g, 0, none⟩) n cap, .func (.func 41) #[] #[]] w fun e w' => e = .returned (.tuple #[]) ∧
   ∃ l', l'.Perm l ∧ (l'.Pairwise fun a b => ltB b a = false) ∧ Own enenc 11 w' base 62 (.slice (some ⟨g, 0, none⟩) n cap) l' ∧ w.grownBy w' (some g) := by
 have eg : ∀ args w, (callFunc 41 args).run Tryz.prog w = .ok (.enter 41 args) w := enters_of Tryz.func41 (by kernel_rfl) rfl
 have hcon := AnyQ.slices_SortFunc Tryz.sortEn 11 en_agg en_size enenc (fun _ => rfl) (fun x v hv => by simp [enenc] at hv; rcases hv with rfl | rfl | rfl | rfl | rfl | rfl | rfl | rfl | rfl | rfl | rfl <;> rfl) bcmp swoB 41 #[] g 0 cap l.toArray w eg (fun _ _ _ _ x y => cloB_any x y _)
  (own_holds enenc_len hown hl.symm) (World.ownsRow.lt hown g rfl).2 (by simp; omega)
 change Calls Tryz.prog 40 _ _ _ at hcon
 rw [List.size_toArray, hl] at hcon
 refine hcon.mono ?_
 rintro e w' ⟨he, d', m, os, hp, hs, hw⟩
 have hsz : d'.size = n := by have := hp.1; simpa [hl] using this
 have hpl : d'.toList.Perm l := by
  have h := permIn_all (d := l.toArray) (d' := d') (by rw [List.size_toArray, hl]; exact hp)
  simpa using h
 have hso : d'.toList.Pairwise fun a b => ltOf bcmp b a = false := sortedIn_all (by rw [hsz]; exact hs)
 obtain ⟨o1, o2⟩ := own_sorted (l' := d'.toList) enenc_len hown hl.symm hpl.length_eq hw
 refine ⟨he, d'.toList, hpl, hso.imp (fun {a b} h => ?_), o1, o2⟩
 rw [ltBc] at h
 exact h
theorem sortB_none (fv : Value) (w : World) : Calls Tryz.prog 40 #[.slice none 0 0, fv] w fun e w' => e = .returned (.tuple #[]) ∧ w' = w := by
 have h := AnyF.slices_SortFunc_none Tryz.sortEn none 0 fv w
 exact h
end Go.Proofs.YtnljihjhmgpcoaaGreat
namespace Go.Proofs.YtnljihjhmgpcoaaGreat
open Go.RowKit
def ValsP (wk ws we : Int) (l : List Pt) (w : World) (r : Ending) (w' : World) : Prop :=
 ∃ v, r = .returned (.tuple #[v, .int .i64 (pvals wk ws we l).2]) ∧ Own enenc 11 w' w.heap.size 62 v (pvals wk ws we l).1 ∧ Below w.heap.size w w'
end Go.Proofs.YtnljihjhmgpcoaaGreat
