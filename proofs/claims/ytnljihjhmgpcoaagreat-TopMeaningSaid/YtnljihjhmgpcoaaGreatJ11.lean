/- Lemmas and contracts for the statement, joined into one text: StoreInv, ExFold, MeanPlain, IntsDo, RefPlain. The conditions of each stand at its head. -/
import Derived.Test.YtnljihjhmgpcoaaGreatJ8
import Derived.Test.YtnljihjhmgpcoaaGreatJ4
import Derived.Test.YtnljihjhmgpcoaaGreatJ10
import Derived.Test.YtnljihjhmgpcoaaGreatJ6
namespace Go.Proofs.YtnljihjhmgpcoaaGreat
open Go.RowKit
theorem accV_ok (v : Int) : (accV v).ok := .inr (.inl ⟨rfl, rfl, rfl⟩)
theorem acc0_ok : acc0.ok := .inl ⟨rfl, rfl, rfl, rfl⟩
theorem acc0_wk : acc0.wk := wk_ok acc0_ok
theorem accV_wk (v : Int) : (accV v).wk := wk_ok (accV_ok v)
theorem aboth_0l (a : Acc) : aboth acc0 a = a := by simp [aboth, acc0]
theorem aboth_0r {a : Acc} (h : a.wk) : aboth a acc0 = a := by rw [both_comm h acc0_wk, aboth_0l]
theorem afold_cons_from (a : Acc) (ha : a.wk) : ∀ (xs : List Int), xs.foldl (fun a v => aboth a ⟨1, v, v, v⟩) a = aboth a (afold xs) ∧ (afold xs).wk
 | [] => ⟨(aboth_0r ha).symm, acc0_wk⟩
 | v :: xs => by
  have h1 := afold_cons_from (accV v) (accV_wk v) xs
  have e0 : afold (v :: xs) = aboth (accV v) (afold xs) := by
   have : afold (v :: xs) = xs.foldl (fun a v => aboth a ⟨1, v, v, v⟩) (aboth acc0 (accV v)) := rfl
   rw [this, aboth_0l]; exact h1.1
  have h2 := afold_cons_from (aboth a (accV v)) (both_wk ha (accV_wk v)) xs
  refine ⟨?_, by rw [e0]; exact both_wk (accV_wk v) h1.2⟩
  rw [e0, ← both_assoc ha (accV_wk v) h1.2, ← h2.1]
  rfl
theorem afold_wk (xs : List Int) : (afold xs).wk := (afold_cons_from acc0 acc0_wk xs).2
theorem afold_cons (v : Int) (xs : List Int) : afold (v :: xs) = aboth (accV v) (afold xs) := by
 have : afold (v :: xs) = xs.foldl (fun a v => aboth a ⟨1, v, v, v⟩) (aboth acc0 (accV v)) := rfl
 rw [this, aboth_0l]; exact (afold_cons_from (accV v) (accV_wk v) xs).1
theorem afold_append (xs ys : List Int) : afold (xs ++ ys) = aboth (afold xs) (afold ys) := by
 have : afold (xs ++ ys) = ys.foldl (fun a v => aboth a ⟨1, v, v, v⟩) (afold xs) := by simp [afold]
 rw [this]; exact (afold_cons_from _ (afold_wk xs) ys).1
theorem afold_perm {xs ys : List Int} (h : xs.Perm ys) : afold xs = afold ys := by
 induction h with
 | nil => rfl
 | cons x _ ih => rw [afold_cons, afold_cons, ih]
 | swap x y l => rw [afold_cons, afold_cons, afold_cons, afold_cons, ← both_assoc (accV_wk _) (accV_wk _) (afold_wk l), ← both_assoc (accV_wk _) (accV_wk _) (afold_wk l), both_comm (accV_wk y) (accV_wk x)]
 | trans _ _ h1 h2 => exact h1.trans h2
theorem afold_c (xs : List Int) : (afold xs).c = xs.length := by
 induction xs with
 | nil => rfl
 | cons v xs ih =>
  rw [afold_cons, both_c (accV_wk v) (afold_wk xs), ih]
  show (1 : Int) + _ = _
  simp; omega
structure Pt where
 k : Int
 t : Int
 v : Int
 d : Int
deriving DecidableEq
instance : Inhabited Pt := ⟨⟨0, 0, 0, 0⟩⟩
/-- The accumulator of some records. -/
def accP (q : Pt → Bool) (P : List Pt) : Acc := afold ((P.filter q).map Pt.v)
theorem accP_wk (q : Pt → Bool) (P : List Pt) : (accP q P).wk := afold_wk _
theorem accP_c (q : Pt → Bool) (P : List Pt) : (accP q P).c = (P.filter q).length := by unfold accP; rw [afold_c]; simp
theorem accP_ok (q : Pt → Bool) {P : List Pt} (h : P.length ≤ 1073741824) : (accP q P).ok := by
 refine (afold_ok _ ?_).1
 rw [List.length_map]
 exact Nat.le_trans (List.length_filter_le _ _) h
theorem accP_snoc (q : Pt → Bool) (P : List Pt) (p : Pt) : accP q (P ++ [p]) = if q p = true then aboth (accP q P) (accV p.v) else accP q P := by
 unfold accP
 rw [List.filter_append]
 by_cases h : q p = true
 ·rw [if_pos h]; simp only [List.filter_cons, List.filter_nil, h, if_true, List.map_append, List.map_cons, List.map_nil, afold_append]; rfl
 ·rw [if_neg h]; simp [h]
theorem accP_perm (q : Pt → Bool) {P R : List Pt} (h : P.Perm R) : accP q P = accP q R := afold_perm ((h.filter q).map _)
theorem accP_congr {q r : Pt → Bool} {P : List Pt} (h : ∀ p ∈ P, q p = r p) : accP q P = accP r P := by
 unfold accP; rw [List.filter_congr h]
theorem accP_none {q : Pt → Bool} {P : List Pt} (h : ∀ p ∈ P, q p = false) : accP q P = acc0 := by
 unfold accP; rw [List.filter_eq_nil_iff.2 (fun p hp => by simp [h p hp])]; rfl
/-- Of two sorts of records together. -/
theorem accP_or {q r : Pt → Bool} {P : List Pt} (h : ∀ p ∈ P, q p = true → r p = false) : accP (fun p => q p || r p) P = aboth (accP q P) (accP r P) := by
 unfold accP
 rw [← afold_append, ← List.map_append]
 refine afold_perm (List.Perm.map _ ?_)
 have h0 := List.filter_append_perm q (P.filter fun p => q p || r p)
 refine h0.symm.trans (List.Perm.of_eq ?_)
 rw [List.filter_filter, List.filter_filter]
 congr 1
 ·refine List.filter_congr (fun p _ => ?_)
  cases q p <;> simp
 ·refine List.filter_congr (fun p hp => ?_)
  have := h p hp
  cases hq : q p <;> simp_all
/-- A record is one of an entry's. -/
def inE (x : En) (p : Pt) : Bool := decide (p.k = x.k ∧ x.s ≤ p.t ∧ p.t < x.e)
def sideE (d : Int) (x : En) (p : Pt) : Bool := inE x p && decide (p.d = d)
/-- An entry has the accumulators of its records. -/
def Rig (P : List Pt) (x : En) : Prop := x.a = accP (sideE 0 x) P ∧ x.b = accP (sideE 1 x) P
theorem sideE_congr {d : Int} {x y : En} (h1 : x.k = y.k) (h2 : x.s = y.s) (h3 : x.e = y.e) : sideE d x = sideE d y := by
 funext p; unfold sideE inE; rw [h1, h2, h3]
theorem Rig.perm {P R : List Pt} (h : P.Perm R) {x : En} (hx : Rig P x) : Rig R x := ⟨hx.1.trans (accP_perm _ h), hx.2.trans (accP_perm _ h)⟩
theorem Rig.unique {P : List Pt} {x y : En} (hx : Rig P x) (hy : Rig P y) (h1 : x.k = y.k) (h2 : x.s = y.s) (h3 : x.e = y.e) : x = y := by
 refine en_ext h1 h2 h3 ?_ ?_
 ·rw [hx.1, hy.1, sideE_congr h1 h2 h3]
 ·rw [hx.2, hy.2, sideE_congr h1 h2 h3]
/-- A record that is not an entry's changes nothing. -/
theorem Rig.far {P : List Pt} {x : En} {p : Pt} (h : inE x p = false) : Rig (P ++ [p]) x ↔ Rig P x := by
 unfold Rig
 rw [accP_snoc, accP_snoc, if_neg (by simp [sideE, h]), if_neg (by simp [sideE, h])]
/-- The entry of a key and a span, of some records. -/
def entP (P : List Pt) (k s e : Int) : En := mkEn k s e (accP (sideE 0 ⟨k, s, e, 0, 0, 0, 0, 0, 0, 0, 0⟩) P) (accP (sideE 1 ⟨k, s, e, 0, 0, 0, 0, 0, 0, 0, 0⟩) P)
theorem entP_rig (P : List Pt) (k s e : Int) : Rig P (entP P k s e) := ⟨by rw [sideE_congr (x := entP P k s e) (y := ⟨k, s, e, 0, 0, 0, 0, 0, 0, 0, 0⟩) rfl rfl rfl]; rfl, by rw [sideE_congr (x := entP P k s e) (y := ⟨k, s, e, 0, 0, 0, 0, 0, 0, 0, 0⟩) rfl rfl rfl]; rfl⟩
theorem Rig.wk {P : List Pt} {x : En} (h : Rig P x) : x.a.wk ∧ x.b.wk := by rw [h.1, h.2]; exact ⟨accP_wk _ _, accP_wk _ _⟩
theorem Rig.count {P : List Pt} (hd : ∀ p ∈ P, p.d = 0 ∨ p.d = 1) {x : En} (h : Rig P x) {p : Pt} (hp : p ∈ P) (hin : inE x p = true) : 0 < x.c1 + x.c2 := by
 have h1 : x.c1 = (P.filter (sideE 0 x)).length := by have := accP_c (sideE 0 x) P; rw [← h.1] at this; exact this
 have h2 : x.c2 = (P.filter (sideE 1 x)).length := by have := accP_c (sideE 1 x) P; rw [← h.2] at this; exact this
 rcases hd p hp with h0 | h0
 ·have : p ∈ P.filter (sideE 0 x) := List.mem_filter.2 ⟨hp, by simp [sideE, hin, h0]⟩
  have := List.length_pos_of_mem this
  omega
 ·have : p ∈ P.filter (sideE 1 x) := List.mem_filter.2 ⟨hp, by simp [sideE, hin, h0]⟩
  have := List.length_pos_of_mem this
  omega
theorem Rig.le {P : List Pt} {x : En} (h : Rig P x) : x.c1 ≤ P.length ∧ x.c2 ≤ P.length := by
 have h1 : x.c1 = (P.filter (sideE 0 x)).length := by have := accP_c (sideE 0 x) P; rw [← h.1] at this; exact this
 have h2 : x.c2 = (P.filter (sideE 1 x)).length := by have := accP_c (sideE 1 x) P; rw [← h.2] at this; exact this
 have := List.length_filter_le (sideE 0 x) P
 have := List.length_filter_le (sideE 1 x) P
 omega
def evW (k s e : Int) : Int := if k = 1 then s else e
theorem mem_wspans {wk ws we t : Int} (h : wok wk ws we) (hk : wk ≠ 3) (t1 : -1099511627776 ≤ t) (t2 : t ≤ 1099511627776) (p : Int × Int) :
  p ∈ wspans wk ws we t ↔ p.2 = p.1 + ws ∧ p.1 % evW wk ws we = 0 ∧ p.1 ≤ t ∧ t < p.1 + ws := by
 obtain ⟨⟨s1, s2⟩, h⟩ := h
 unfold wspans evW
 by_cases h1 : wk = 1
 ·rw [if_pos h1, if_pos h1]
  have ht : tchk t ws = 0 := tchk_zero.2 ⟨s1, s2, t1, t2⟩
  have e : tspan t ws = (t / ws * ws, t / ws * ws + ws) := by unfold tspan; rw [if_pos ht]
  rw [e, List.mem_singleton]
  have hd := Int.mul_ediv_add_emod t ws
  have hm := Int.emod_nonneg t (show ws ≠ 0 by omega)
  have hm2 := Int.emod_lt_of_pos t (show 0 < ws by omega)
  constructor
  ·rintro rfl
   have hc : t / ws * ws = ws * (t / ws) := Int.mul_comm _ _
   refine ⟨rfl, Int.mul_emod_left _ _, ?_, ?_⟩ <;> simp only <;> omega
  ·rintro ⟨e1, e2, e3, e4⟩
   obtain ⟨q, hq⟩ : ∃ q, p.1 = ws * q := ⟨p.1 / ws, by have := Int.mul_ediv_add_emod p.1 ws; omega⟩
   have hq2 : t / ws = q := by
    have h5 : t = q * ws + (t - q * ws) := by omega
    have hcc : q * ws = ws * q := Int.mul_comm _ _
    rw [h5, Int.mul_comm q ws, Int.add_comm, Int.add_mul_ediv_left _ _ (by omega), Int.ediv_eq_zero_of_lt (by omega) (by omega)]
    omega
   rw [hq2]
   have hc : q * ws = ws * q := Int.mul_comm _ _
   exact Prod.ext (by simp only; omega) (by simp only; omega)
 ·rw [if_neg h1, if_neg h1]
  have h2 : wk = 2 ∧ 1 ≤ we ∧ we ≤ ws ∧ ws ≤ 16 * we := by omega
  obtain ⟨-, w1, w2, w3⟩ := h2
  unfold swins swk
  rw [List.mem_map]
  constructor
  ·rintro ⟨i, hi, rfl⟩
   have hi' := (List.mem_filter.1 hi).2
   unfold swin at hi'
   simp only [decide_eq_true_eq] at hi'
   exact ⟨rfl, Int.mul_emod_left _ _, hi'.1, hi'.2⟩
  ·rintro ⟨e1, e2, e3, e4⟩
   obtain ⟨q, hq⟩ : ∃ q, p.1 = we * q := ⟨p.1 / we, by have := Int.mul_ediv_add_emod p.1 we; omega⟩
   have hc : q * we = we * q := Int.mul_comm _ _
   have hd := Int.mul_ediv_add_emod t we
   have hm := Int.emod_nonneg t (show we ≠ 0 by omega)
   have hm2 := Int.emod_lt_of_pos t (show 0 < we by omega)
   have hle : q ≤ t / we := by
    rcases Int.lt_or_le (t / we) q with hlt | hge
    ·have := Int.mul_le_mul_of_nonneg_left (show t / we + 1 ≤ q by omega) (show 0 ≤ we by omega)
     rw [Int.mul_add] at this
     omega
    ·exact hge
   have hge : t / we - 16 ≤ q := by
    rcases Int.lt_or_le q (t / we - 16) with hlt | hge
    ·have := Int.mul_le_mul_of_nonneg_left (show q + 17 ≤ t / we by omega) (show 0 ≤ we by omega)
     rw [Int.mul_add] at this
     omega
    ·exact hge
   refine ⟨q, List.mem_filter.2 ⟨?_, ?_⟩, Prod.ext (by simp only; omega) (by simp only; omega)⟩
   ·rw [List.mem_map]
    refine ⟨(q - (t / we - 16)).toNat, List.mem_range.2 (by omega), by omega⟩
   ·unfold swin; simp only [decide_eq_true_eq]; omega
theorem wspans_nodup {wk ws we t : Int} (h : wok wk ws we) (hk : wk ≠ 3) : (wspans wk ws we t).Pairwise (fun p q => p.1 < q.1) := by
 obtain ⟨⟨s1, s2⟩, h⟩ := h
 unfold wspans
 by_cases h1 : wk = 1
 ·rw [if_pos h1]; simp
 ·rw [if_neg h1]
  have h2 : wk = 2 ∧ 1 ≤ we ∧ we ≤ ws ∧ ws ≤ 16 * we := by omega
  obtain ⟨-, w1, w2, w3⟩ := h2
  unfold swins swk
  rw [List.pairwise_map]
  refine List.Pairwise.filter _ ?_
  rw [List.pairwise_map]
  refine List.pairwise_lt_range.imp ?_
  intro a b hab
  have hab' : t / we - 16 + (a : Int) + 1 ≤ t / we - 16 + (b : Int) := by omega
  have := Int.mul_le_mul_of_nonneg_right hab' (show 0 ≤ we by omega)
  rw [Int.add_mul] at this
  simp only
  omega
theorem wspans_16 {wk ws we t : Int} (h : wok wk ws we) (hk : wk ≠ 3) : (wspans wk ws we t).length ≤ 16 := by
 obtain ⟨⟨s1, s2⟩, h⟩ := h
 unfold wspans
 by_cases h1 : wk = 1
 ·rw [if_pos h1]; simp
 ·rw [if_neg h1]
  have h2 : wk = 2 ∧ 1 ≤ we ∧ we ≤ ws ∧ ws ≤ 16 * we := by omega
  have hr : sright ws we := ⟨s1, h2.2.1, s2, h2.2.2.1, h2.2.2.2⟩
  rw [swins_len hr]
  exact (scount_facts hr).2.1
/-- A record whose time and side are right. -/
def okP (p : Pt) : Prop := (-1099511627776 ≤ p.t ∧ p.t ≤ 1099511627776) ∧ (p.d = 0 ∨ p.d = 1)
def recP (p : Pt) (q : Int × Int) : En := recE p.k p.v p.d q.1 q.2
theorem recP_f (p : Pt) (q : Int × Int) : (recP p q).k = p.k ∧ (recP p q).s = q.1 ∧ (recP p q).e = q.2 ∧ (recP p q).a = (if p.d = 0 then accV p.v else acc0) ∧ (recP p q).b = (if p.d = 0 then acc0 else accV p.v) := by
 unfold recP recE
 refine ⟨rfl, rfl, rfl, ?_, ?_⟩ <;> split <;> rfl
theorem recP_w {p : Pt} {q : Int × Int} (h : q.1 < q.2) : enw (recP p q) := by
 obtain ⟨h1, h2, h3, h4, h5⟩ := recP_f p q
 refine ⟨by omega, ?_, ?_⟩
 ·rw [h4]; split; exact accV_wk _; exact acc0_wk
 ·rw [h5]; split; exact acc0_wk; exact accV_wk _
/-- An entry of its key and span joined with the record's. -/
theorem rig_join {P : List Pt} {p : Pt} {q : Int × Int} {y : En} (hd : p.d = 0 ∨ p.d = 1) (hy : Rig P y) (h1 : y.k = p.k) (h2 : y.s = q.1) (h3 : y.e = q.2) (ht : q.1 ≤ p.t ∧ p.t < q.2) : Rig (P ++ [p]) (enJ (recP p q) y) := by
 obtain ⟨r1, r2, r3, r4, r5⟩ := recP_f p q
 have k1 : (enJ (recP p q) y).k = y.k := by show (recP p q).k = _; rw [r1, h1]
 have k2 : (enJ (recP p q) y).s = y.s := by show min (recP p q).s y.s = _; omega
 have k3 : (enJ (recP p q) y).e = y.e := by show max (recP p q).e y.e = _; omega
 have hin : inE y p = true := by unfold inE; simp only [decide_eq_true_eq]; omega
 have wa := hy.wk
 unfold Rig
 rw [sideE_congr (d := 0) k1 k2 k3, sideE_congr (d := 1) k1 k2 k3, accP_snoc, accP_snoc, enJ_a, enJ_b, r4, r5, ← hy.1, ← hy.2]
 rcases hd with h0 | h0
 ·have s0 : sideE 0 y p = true := by simp [sideE, hin, h0]
  have s1 : sideE 1 y p = false := by simp [sideE, h0]
  rw [s0, s1, if_pos h0, if_pos h0]
  exact ⟨by rw [if_pos rfl, both_comm (accV_wk _) wa.1], by rw [if_neg (by simp), aboth_0l]⟩
 ·have s0 : sideE 0 y p = false := by simp [sideE, h0]
  have s1 : sideE 1 y p = true := by simp [sideE, hin, h0]
  have hn0 : ¬ p.d = 0 := by omega
  simp only [s0, s1, if_neg hn0]
  exact ⟨by rw [if_neg (by simp), aboth_0l], by rw [if_pos (by simp), both_comm (accV_wk _) wa.2]⟩
/-- The first record of a span. -/
theorem rig_new {P : List Pt} {p : Pt} {q : Int × Int} (hd : p.d = 0 ∨ p.d = 1) (hn : ∀ r ∈ P, r.k = p.k → ¬ (q.1 ≤ r.t ∧ r.t < q.2)) (ht : q.1 ≤ p.t ∧ p.t < q.2) : Rig (P ++ [p]) (recP p q) := by
 obtain ⟨r1, r2, r3, r4, r5⟩ := recP_f p q
 have hin : inE (recP p q) p = true := by unfold inE; simp only [decide_eq_true_eq]; omega
 have hno : ∀ d, accP (sideE d (recP p q)) P = acc0 := fun d => accP_none (fun r hr => by
  have := hn r hr
  unfold sideE inE
  rw [r1, r2, r3]
  by_cases hk : r.k = p.k
  ·have := this hk
   have h0 : ¬ (r.k = p.k ∧ q.1 ≤ r.t ∧ r.t < q.2) := fun h => this h.2
   simp [h0]
  ·simp [hk])
 unfold Rig
 rw [accP_snoc, accP_snoc, hno, hno, r4, r5]
 rcases hd with h0 | h0
 ·have s0 : sideE 0 (recP p q) p = true := by simp [sideE, hin, h0]
  have s1 : sideE 1 (recP p q) p = false := by simp [sideE, h0]
  rw [s0, s1, if_pos h0, if_pos h0]
  exact ⟨by rw [if_pos rfl, aboth_0l], by rw [if_neg (by simp)]⟩
 ·have s0 : sideE 0 (recP p q) p = false := by simp [sideE, h0]
  have s1 : sideE 1 (recP p q) p = true := by simp [sideE, hin, h0]
  have hn0 : ¬ p.d = 0 := by omega
  simp only [s0, s1, if_neg hn0]
  exact ⟨by rw [if_neg (by simp)], by rw [if_pos (by simp), aboth_0l]⟩
end Go.Proofs.YtnljihjhmgpcoaaGreat
namespace Go.Proofs.YtnljihjhmgpcoaaGreat
open Go Go.RowKit
def b2i (b : Bool) : Int := if b then 1 else 0
def sh63 (b : Int) : Int := bits .and .i64 b 63
/-- What an operator gives. -/
def doI (k a b : Int) : Int :=
 if k = 5 then wrap64 (-a) else if k = 6 then b2i (decide (a = 0)) else if k = 7 then wrap64 (a * b) else if k = 8 then wrap64 (a + b) else if k = 9 then wrap64 (a - b)
 else if k = 10 then wrap64 (a * 2 ^ (sh63 b).toNat) else if k = 11 then a / 2 ^ (sh63 b).toNat
 else if k = 12 then b2i (decide (a < b)) else if k = 13 then b2i (decide (a ≤ b)) else if k = 14 then b2i (decide (b < a)) else if k = 15 then b2i (decide (b ≤ a))
 else if k = 16 then b2i (decide (a = b)) else if k = 17 then b2i (!decide (a = b)) else if k = 18 then b2i (!decide (a = 0) && !decide (b = 0)) else b2i (!decide (bits .or .i64 a b = 0))
theorem sh63_bd (b : Int) : 0 ≤ sh63 b ∧ sh63 b ≤ 63 := by
 unfold sh63 bits
 simp only
 have h : (BitVec.ofInt IntKind.i64.bits b &&& BitVec.ofInt IntKind.i64.bits 63).toNat ≤ 63 := by
  rw [BitVec.toNat_and]
  have : (BitVec.ofInt IntKind.i64.bits 63).toNat = 63 := by decide
  rw [this]
  exact Nat.and_le_right
 rw [IntWalk.i64_in _ (by omega)]
 omega
def in64 (x : Int) : Prop := -9223372036854775808 ≤ x ∧ x ≤ 9223372036854775807
theorem wrap_in (x : Int) : in64 (wrap64 x) := by unfold in64 wrap64; omega
theorem b2i_bd (b : Bool) : b2i b = 0 ∨ b2i b = 1 := by cases b; exact .inl rfl; exact .inr rfl
theorem b2i_in (b : Bool) : in64 (b2i b) := by unfold in64; rcases b2i_bd b with h | h <;> omega
theorem div_in {a : Int} (h : in64 a) (n : Nat) : in64 (a / 2 ^ n) := by
 have hp : (0 : Int) < 2 ^ n := Int.pow_pos (by decide)
 unfold in64 at *
 have hp' : (1 : Int) ≤ 2 ^ n := hp
 constructor
 ·refine (Int.le_ediv_iff_mul_le hp).2 ?_
  have := Int.mul_le_mul_of_nonneg_left hp' (show (0 : Int) ≤ 9223372036854775808 by decide)
  rw [Int.neg_mul]
  omega
 ·have h1 : a / 2 ^ n ≤ max a 0 := by
   rcases Int.le_total 0 a with h0 | h0
   ·have := Int.ediv_le_self (2 ^ n) h0
    omega
   ·have : a / 2 ^ n ≤ 0 := by
     have h2 := Int.ediv_le_ediv hp h0
     rwa [Int.zero_ediv] at h2
    omega
  omega
theorem in_ite {c : Prop} [Decidable c] {a b : Int} (ha : in64 a) (hb : in64 b) : in64 (if c then a else b) := by split; exact ha; exact hb
theorem doI_in {k a b : Int} (h : in64 a) : in64 (doI k a b) := by
 unfold doI
 exact in_ite (wrap_in _) (in_ite (b2i_in _) (in_ite (wrap_in _) (in_ite (wrap_in _) (in_ite (wrap_in _) (in_ite (wrap_in _) (in_ite (div_in h _) (in_ite (b2i_in _) (in_ite (b2i_in _) (in_ite (b2i_in _) (in_ite (b2i_in _) (in_ite (b2i_in _) (in_ite (b2i_in _) (in_ite (b2i_in _) (b2i_in _))))))))))))))
theorem doI_truth {k a b : Int} (h : givK k = true) : doI k a b = 0 ∨ doI k a b = 1 := by
 unfold givK at h
 simp only [decide_eq_true_eq] at h
 unfold doI
 rw [if_neg (by omega)]
 by_cases h6 : k = 6
 ·rw [if_pos h6]; exact b2i_bd _
 ·rw [if_neg h6, if_neg (by omega), if_neg (by omega), if_neg (by omega), if_neg (by omega), if_neg (by omega)]
  repeat' (first | exact b2i_bd _ | split)
def Ex.ev (r : Pt) : Ex → Int
 | .lf k n _ => if k = 1 then n else if k = 2 then r.k else if k = 3 then r.t else r.v
 | .un k _ e => doI k (e.ev r) 0
 | .bn k _ e f => doI k (e.ev r) (f.ev r)
theorem doI_un {k : Int} (h : k = 5 ∨ k = 6) (a b c : Int) : doI k a b = doI k a c := by
 unfold doI
 rcases h with rfl | rfl
 ·rw [if_pos rfl, if_pos rfl]
 ·rw [if_neg (by decide), if_pos rfl, if_neg (by decide), if_pos rfl]
def Ex.const : Ex → Bool
 | .lf k _ _ => decide (k = 1)
 | .un _ _ e => e.const
 | .bn _ _ e f => e.const && f.const
theorem const_ev {e : Ex} (h : e.const = true) (r r' : Pt) : e.ev r = e.ev r' := by
 induction e with
 | lf k n p =>
  have h : k = 1 := by simpa [Ex.const] using h
  simp [Ex.ev, h]
 | un k p e ih => simp only [Ex.ev, ih h]
 | bn k p e f ih1 ih2 =>
  simp only [Ex.const, Bool.and_eq_true] at h
  simp only [Ex.ev, ih1 h.1, ih2 h.2]
theorem const_in {e : Ex} (h : e.const = true) (ho : e.ok) (r : Pt) : in64 (e.ev r) := by
 induction e with
 | lf k n p =>
  have h : k = 1 := by simpa [Ex.const] using h
  have := ho.1.2.1
  simp only [Ex.ev, if_pos h]
  unfold in64; omega
 | un k p e ih => exact doI_in (ih h ho.2.2)
 | bn k p e f ih1 ih2 =>
  simp only [Ex.const, Bool.and_eq_true] at h
  exact doI_in (ih1 h.1 ho.2.2.1)
/-- A field of a record. -/
def fldN (x : Nd) : Bool := decide (2 ≤ x.k ∧ x.k ≤ 4)
theorem const_flat (e : Ex) (h : e.ok) : ∀ o, e.const = !(e.flat o).any fldN := by
 induction e with
 | lf k n p =>
  intro o
  have := h.1.1
  simp only [Ex.const, Ex.flat, List.any_cons, List.any_nil, Bool.or_false, fldN]
  rw [Bool.eq_iff_iff]
  simp; omega
 | un k p e ih =>
  intro o
  obtain ⟨hk, _, he⟩ := h
  simp only [Ex.const, Ex.flat, List.any_append, List.any_cons, List.any_nil, Bool.or_false, fldN]
  have e1 : decide (2 ≤ k ∧ k ≤ 4) = false := by simp; omega
  rw [e1, Bool.or_false]
  exact ih he o
 | bn k p e f ih1 ih2 =>
  intro o
  obtain ⟨hk, _, he, hf⟩ := h
  simp only [Ex.const, Ex.flat, List.any_append, List.any_cons, List.any_nil, Bool.or_false, fldN]
  have e1 : decide (2 ≤ k ∧ k ≤ 4) = false := by simp; omega
  rw [e1, Bool.or_false, ih1 he o, ih2 hf (o + e.size), Bool.not_or]
theorem truth_ev {e : Ex} (ho : e.ok) (hg : e.gives = true) (r : Pt) : (e.ev r = 0 ∨ e.ev r = 1) ∧ 2 ≤ e.deep ∧ 2 ≤ e.size := by
 cases e with
 | lf k n p =>
  exfalso
  have := ho.1.1
  unfold Ex.gives Ex.kind givK at hg
  simp at hg; omega
 | un k p e => exact ⟨doI_truth hg, by have := e.deep_pos; simp only [Ex.deep]; omega, by have := e.size_pos; simp only [Ex.size]; omega⟩
 | bn k p e f => exact ⟨doI_truth hg, by have := e.deep_pos; simp only [Ex.deep]; omega, by have := e.size_pos; simp only [Ex.size]; omega⟩
theorem truth_size {e : Ex} (ho : e.ok) (hw : e.wt = true) (hg : e.gives = true) : 3 ≤ e.size := by
 induction e with
 | lf k n p =>
  exfalso
  have := ho.1.1
  unfold Ex.gives Ex.kind givK at hg
  simp at hg; omega
 | un k p e ih =>
  obtain ⟨hk, _, he⟩ := ho
  simp only [Ex.wt, Bool.and_eq_true, Ex.fits] at hw
  have h6 : k = 6 := by
   unfold Ex.gives Ex.kind givK at hg
   simp at hg; omega
  rw [if_neg (by omega)] at hw
  have := ih he hw.1 hw.2
  simp only [Ex.size]; omega
 | bn k p e f => have := e.size_pos; have := f.size_pos; simp only [Ex.size]; omega
/-- An expression that stands for another one: no greater, of the same kind, with the same values. -/
structure Fo (e e' : Ex) : Prop where
 ok : e'.ok
 wt : e'.wt = true
 gv : e'.gives = e.gives
 sz : e'.size ≤ e.size
 dp : e'.deep ≤ e.deep
 ev : ∀ r, e'.ev r = e.ev r
theorem Fo.refl {e : Ex} (h : e.ok) (hw : e.wt = true) : Fo e e := ⟨h, hw, rfl, Nat.le_refl _, Nat.le_refl _, fun _ => rfl⟩
theorem Fo.trans {e f g : Ex} (h : Fo e f) (h2 : Fo f g) : Fo e g := ⟨h2.ok, h2.wt, h2.gv.trans h.gv, Nat.le_trans h2.sz h.sz, Nat.le_trans h2.dp h.dp, fun r => (h2.ev r).trans (h.ev r)⟩
theorem Fo.un {k p : Int} {e e' : Ex} (h : Fo e e') (ho : (Ex.un k p e).ok) (hw : (Ex.un k p e).wt = true) : Fo (.un k p e) (.un k p e') := by
 obtain ⟨hk, hp, _⟩ := ho
 simp only [Ex.wt, Bool.and_eq_true, Ex.fits] at hw
 refine ⟨⟨hk, hp, h.ok⟩, ?_, rfl, by have := h.sz; simp only [Ex.size]; omega, by have := h.dp; simp only [Ex.deep]; omega, fun r => by simp only [Ex.ev, h.ev]⟩
 simp only [Ex.wt, Bool.and_eq_true, Ex.fits, h.gv]
 exact ⟨h.wt, hw.2⟩
theorem Fo.bn {k p : Int} {e e' f f' : Ex} (h : Fo e e') (h2 : Fo f f') (ho : (Ex.bn k p e f).ok) (hw : (Ex.bn k p e f).wt = true) : Fo (.bn k p e f) (.bn k p e' f') := by
 obtain ⟨hk, hp, _⟩ := ho
 simp only [Ex.wt, Bool.and_eq_true, Ex.fits] at hw
 refine ⟨⟨hk, hp, h.ok, h2.ok⟩, ?_, rfl, by have := h.sz; have := h2.sz; simp only [Ex.size]; omega, by have := h.dp; have := h2.dp; simp only [Ex.deep]; omega, fun r => by simp only [Ex.ev, h.ev, h2.ev]⟩
 simp only [Ex.wt, Bool.and_eq_true, Ex.fits, h.gv, h2.gv]
 exact ⟨⟨h.wt, h2.wt⟩, hw.2⟩
/-- The folded form of a value, if it has one. -/
def fmE (x : Int) (truth : Bool) (p : Int) : Option Ex :=
 if truth = true then some (.bn (if x = 0 then 17 else 16) p (.lf 1 0 p) (.lf 1 0 p)) else if 0 ≤ x then some (.lf 1 x p) else if 0 < wrap64 (-x) then some (.un 5 p (.lf 1 (wrap64 (-x)) p)) else none
theorem ok_pos {e : Ex} (h : e.ok) : atp e.pos := by
 cases e with
 | lf => exact h.2
 | un => exact h.2.1
 | bn => exact h.2.1
theorem fm_fo {e e' : Ex} (ho : e.ok) (hw : e.wt = true) (hc : e.const = true) (r : Pt) (h : fmE (e.ev r) e.gives e.pos = some e') : Fo e e' := by
 have hp := ok_pos ho
 have hin := const_in hc ho r
 have hev := const_ev hc
 unfold fmE at h
 by_cases hg : e.gives = true
 ·rw [if_pos hg] at h
  obtain ⟨h1, h2, h3⟩ := truth_ev ho hg r
  have h4 := truth_size ho hw hg
  have hz : lfok 1 0 := ⟨by omega, by omega, by omega⟩
  rcases h1 with h1 | h1
  ·rw [h1, if_pos rfl] at h
   obtain rfl := Option.some.inj h
   exact ⟨⟨by omega, hp, ⟨hz, hp⟩, ⟨hz, hp⟩⟩, by simp [Ex.wt, Ex.fits, Ex.gives, Ex.kind, givK], by rw [hg]; simp [Ex.gives, Ex.kind, givK], by simp only [Ex.size]; omega, by simp only [Ex.deep]; omega, fun r' => by rw [hev r' r, h1]; simp [Ex.ev, doI, b2i]⟩
  ·rw [h1, if_neg (by decide)] at h
   obtain rfl := Option.some.inj h
   exact ⟨⟨by omega, hp, ⟨hz, hp⟩, ⟨hz, hp⟩⟩, by simp [Ex.wt, Ex.fits, Ex.gives, Ex.kind, givK], by rw [hg]; simp [Ex.gives, Ex.kind, givK], by simp only [Ex.size]; omega, by simp only [Ex.deep]; omega, fun r' => by rw [hev r' r, h1]; simp [Ex.ev, doI, b2i]⟩
 ·rw [if_neg hg] at h
  have hg' : e.gives = false := by simpa using hg
  unfold in64 at hin
  by_cases h0 : 0 ≤ e.ev r
  ·rw [if_pos h0] at h
   obtain rfl := Option.some.inj h
   exact ⟨⟨⟨by omega, by omega, by omega⟩, hp⟩, rfl, by rw [hg']; rfl, by have := e.size_pos; simp only [Ex.size]; omega, by have := e.deep_pos; simp only [Ex.deep]; omega, fun r' => by rw [hev r' r]; rfl⟩
  ·rw [if_neg h0] at h
   by_cases h1 : 0 < wrap64 (-e.ev r)
   ·rw [if_pos h1] at h
    obtain rfl := Option.some.inj h
    have hwr : wrap64 (-e.ev r) = -e.ev r := by unfold wrap64 at h1 ⊢; omega
    have hb : -9223372036854775807 ≤ e.ev r := by unfold wrap64 at h1; omega
    have hne : 2 ≤ e.size ∧ 2 ≤ e.deep := by
     cases e with
     | lf k n p =>
      exfalso
      have hk : k = 1 := by simpa [Ex.const] using hc
      have := ho.1.2.1
      simp only [Ex.ev, if_pos hk] at h0
      omega
     | un k p e => exact ⟨by have := e.size_pos; simp only [Ex.size]; omega, by have := e.deep_pos; simp only [Ex.deep]; omega⟩
     | bn k p e f => exact ⟨by have := e.size_pos; simp only [Ex.size]; omega, by have := e.deep_pos; simp only [Ex.deep]; omega⟩
    refine ⟨⟨.inl rfl, hp, ⟨⟨by omega, by rw [hwr]; omega, by omega⟩, hp⟩⟩, by simp [Ex.wt, Ex.fits, Ex.gives, givK, Ex.kind], by rw [hg']; rfl, by simp only [Ex.size]; omega, by simp only [Ex.deep]; omega, fun r' => ?_⟩
    rw [hev r' r]
    simp only [Ex.ev, if_pos, hwr]
    unfold doI
    rw [if_pos rfl]
    unfold wrap64; omega
   ·rw [if_neg h1] at h
    cases h
theorem Fo.const {e e' : Ex} (h : Fo e e') : e.good → e'.good := fun hg => ⟨h.ok, Nat.le_trans h.sz hg.2.1, Nat.le_trans h.dp hg.2.2⟩
end Go.Proofs.YtnljihjhmgpcoaaGreat
namespace Go.Proofs.YtnljihjhmgpcoaaGreat
open Go.RowKit
/-- A query: its aggregate and argument, its sources, whether they are joined, its condition, its windows, whether by key, what becomes of late records. -/
structure Qy where
 ag : Int
 arg : Option Ex
 src : List Int
 jo : Bool
 wh : Option Ex
 wk : Int
 ws : Int
 we : Int
 ky : Bool
 la : Int
def opl : Option Ex → List Nd
 | none => []
 | some e => e.flat 0
def srcok (l : List Int) : Prop := (1 ≤ l.length ∧ l.length ≤ 4) ∧ (∀ x ∈ l, 0 ≤ x ∧ x ≤ 3) ∧ l.Nodup
structure Qy.good (q : Qy) : Prop where
 ag : 1 ≤ q.ag ∧ q.ag ≤ 4
 la : q.la = 1 ∨ q.la = 2
 cnt : q.ag = 1 ↔ q.arg = none
 arg : ∀ e, q.arg = some e → e.good ∧ e.wt = true ∧ e.gives = false
 wh : ∀ e, q.wh = some e → e.good ∧ e.wt = true ∧ e.gives = true
 src : srcok q.src
 two : q.jo = true → q.src.length = 2
 win : wok q.wk q.ws q.we
 tum : q.jo = true → q.wk = 1
/-- Another query that gives the same. -/
structure Qeq (q p : Qy) : Prop where
 ag : p.ag = q.ag
 src : p.src = q.src
 jo : p.jo = q.jo
 ky : p.ky = q.ky
 la : p.la = q.la
 argn : p.arg = none ↔ q.arg = none
 arg : ∀ e e', q.arg = some e → p.arg = some e' → ∀ r, e'.ev r = e.ev r
 wh : ∀ r : Pt, (∃ e, p.wh = some e ∧ e.ev r = 0) ↔ (∃ e, q.wh = some e ∧ e.ev r = 0)
 win : (p.wk = q.wk ∧ p.ws = q.ws ∧ p.we = q.we) ∨ (q.wk = 2 ∧ q.we = q.ws ∧ p.wk = 1 ∧ p.ws = q.ws ∧ p.we = 0)
theorem Qeq.refl (q : Qy) : Qeq q q := ⟨rfl, rfl, rfl, rfl, rfl, Iff.rfl, fun e e' h h' r => by rw [h] at h'; rw [Option.some.inj h'], fun _ => Iff.rfl, .inl ⟨rfl, rfl, rfl⟩⟩
theorem Qeq.trans {q p o : Qy} (h : Qeq q p) (g : Qeq p o) : Qeq q o := by
 refine ⟨g.ag.trans h.ag, g.src.trans h.src, g.jo.trans h.jo, g.ky.trans h.ky, g.la.trans h.la, g.argn.trans h.argn, fun e e' he he' r => ?_, fun r => (g.wh r).trans (h.wh r), ?_⟩
 ·cases hp : p.arg with
  | none => rw [g.argn.2 hp] at he'; cases he'
  | some f => exact (g.arg f e' hp he' r).trans (h.arg e f he hp r)
 ·have h1 := h.win
  have h2 := g.win
  omega
/-- What counts of a record. -/
def cntP (q : Qy) (r : Pt) : Option Pt :=
 match q.wh with
 | some e => if e.ev r = 0 then none else some ⟨if q.ky = true then r.k else 0, r.t, match q.arg with | none => 0 | some a => a.ev r, 0⟩
 | none => some ⟨if q.ky = true then r.k else 0, r.t, match q.arg with | none => 0 | some a => a.ev r, 0⟩
theorem cnt_eq {q p : Qy} (h : Qeq q p) (r : Pt) : cntP p r = cntP q r := by
 have hv : (match p.arg with | none => (0 : Int) | some a => a.ev r) = (match q.arg with | none => 0 | some a => a.ev r) := by
  cases h1 : q.arg with
  | none => rw [h.argn.2 h1]
  | some e =>
   cases h2 : p.arg with
   | none => rw [h.argn.1 h2] at h1; cases h1
   | some e' => exact h.arg e e' h1 h2 r
 have hw := h.wh r
 unfold cntP
 rw [hv, h.ky]
 cases h1 : q.wh with
 | none =>
  cases h2 : p.wh with
  | none => rfl
  | some e =>
   have : ¬ e.ev r = 0 := fun h0 => by
    obtain ⟨f, hf, _⟩ := hw.1 ⟨e, h2, h0⟩
    rw [h1] at hf; cases hf
   simp only [if_neg this]
 | some f =>
  cases h2 : p.wh with
  | none =>
   have : ¬ f.ev r = 0 := fun h0 => by
    obtain ⟨g, hg, _⟩ := hw.2 ⟨f, h1, h0⟩
    rw [h2] at hg; cases hg
   simp only [if_neg this]
  | some e =>
   by_cases h0 : f.ev r = 0
   ·obtain ⟨g, hg, h3⟩ := hw.2 ⟨f, h1, h0⟩
    rw [h2] at hg
    obtain rfl := Option.some.inj hg
    simp only [if_pos h0, if_pos h3]
   ·have : ¬ e.ev r = 0 := fun h3 => by
     obtain ⟨g, hg, h4⟩ := hw.1 ⟨e, h2, h3⟩
     rw [h1] at hg
     obtain rfl := Option.some.inj hg
     exact h0 h4
    simp only [if_neg h0, if_neg this]
theorem cnt_t {q : Qy} {r x : Pt} (h : cntP q r = some x) : x.t = r.t ∧ x.d = 0 := by
 unfold cntP at h
 split at h
 ·split at h
  ·cases h
  ·obtain rfl := Option.some.inj h; exact ⟨rfl, rfl⟩
 ·obtain rfl := Option.some.inj h; exact ⟨rfl, rfl⟩
/-- An event: whether it is a mark, a time, a record. -/
structure Evt where
 ism : Bool
 time : Int
 k : Int
 t : Int
 v : Int
deriving DecidableEq
def etenc (e : Evt) : List Value := [.bool e.ism, .int .i64 e.time, .int .i64 e.k, .int .i64 e.t, .int .i64 e.v]
def timeI (t : Int) : Bool := decide (-1099511627776 ≤ t ∧ t ≤ 1099511627776)
def etok (e : Evt) : Bool := if e.ism = true then (timeI e.time || decide (e.time = 9223372036854775807)) && decide (e.k = 0 ∧ e.t = 0 ∧ e.v = 0) else decide (e.time = 0) && timeI e.t
/-- The mark behind events. -/
def markB (m : Int) (e : Evt) : Int := if e.ism = true then max m e.time else m
def low64 : Int := -9223372036854775808
def markA (l : List Evt) : Int := l.foldl markB low64
def recO (e : Evt) : Pt := ⟨e.k, e.t, e.v, 0⟩
def rightB (m : Int) (e : Evt) : Bool := !e.ism && !decide (e.t < m)
def lateB (m : Int) (e : Evt) : Bool := !e.ism && decide (e.t < m)
def rightL : Int → List Evt → List Pt
 | _, [] => []
 | m, e :: l => if rightB m e = true then recO e :: rightL (markB m e) l else rightL (markB m e) l
def lateL : Int → List Evt → List Pt
 | _, [] => []
 | m, e :: l => if lateB m e = true then recO e :: lateL (markB m e) l else lateL (markB m e) l
theorem rightL_snoc (e : Evt) : ∀ (l : List Evt) (m : Int), rightL m (l ++ [e]) = rightL m l ++ if rightB (l.foldl markB m) e = true then [recO e] else []
 | [], m => by simp [rightL]; rfl
 | x :: l, m => by
  simp only [List.cons_append, rightL, List.foldl_cons, rightL_snoc e l]
  split <;> simp <;> rfl
theorem lateL_snoc (e : Evt) : ∀ (l : List Evt) (m : Int), lateL m (l ++ [e]) = lateL m l ++ if lateB (l.foldl markB m) e = true then [recO e] else []
 | [], m => by simp [lateL]; rfl
 | x :: l, m => by
  simp only [List.cons_append, lateL, List.foldl_cons, lateL_snoc e l]
  split <;> simp <;> rfl
theorem rightL_len : ∀ (l : List Evt) (m : Int), (rightL m l).length ≤ l.length
 | [], _ => Nat.le_refl _
 | e :: l, m => by have := rightL_len l (markB m e); simp only [rightL]; split <;> simp <;> omega
theorem lateL_len : ∀ (l : List Evt) (m : Int), (lateL m l).length ≤ l.length
 | [], _ => Nat.le_refl _
 | e :: l, m => by have := lateL_len l (markB m e); simp only [lateL]; split <;> simp <;> omega
theorem rightL_mem : ∀ (l : List Evt) (m : Int) (p : Pt), p ∈ rightL m l → ∃ e ∈ l, e.ism = false ∧ p = recO e
 | [], _, _, h => by cases h
 | e :: l, m, p, h => by
  simp only [rightL] at h
  have key : p ∈ rightL (markB m e) l → ∃ e' ∈ e :: l, e'.ism = false ∧ p = recO e' := fun h => by
   obtain ⟨e', h1, h2⟩ := rightL_mem l _ p h
   exact ⟨e', List.mem_cons_of_mem _ h1, h2⟩
  split at h
  ·rename_i hr
   rcases List.mem_cons.1 h with rfl | h
   ·unfold rightB at hr
    simp only [Bool.and_eq_true, Bool.not_eq_true'] at hr
    exact ⟨e, List.mem_cons_self, hr.1, rfl⟩
   ·exact key h
  ·exact key h
def onS (q : Qy) (i : Nat) : Int := if q.jo = true then i else 0
def sideP (d : Int) (p : Pt) : Pt := ⟨p.k, p.t, p.v, d⟩
/-- What counts of the lists of events from one on. -/
def putsF (q : Qy) : Nat → List (List Evt) → List Pt
 | _, [] => []
 | i, l :: ls => ((rightL low64 l).filterMap (cntP q)).map (sideP (onS q i)) ++ putsF q (i + 1) ls
def putsQ (q : Qy) (ls : List (List Evt)) : List Pt := putsF q 0 ls
def lateQ (ls : List (List Evt)) : List Pt := ls.flatMap (lateL low64)
theorem puts_eq {q p : Qy} (h : Qeq q p) : ∀ (ls : List (List Evt)) (i : Nat), putsF p i ls = putsF q i ls
 | [], _ => rfl
 | l :: ls, i => by
  have e1 : cntP p = cntP q := funext (cnt_eq h)
  have e2 : onS p i = onS q i := by unfold onS; rw [h.jo]
  simp only [putsF, e1, e2, puts_eq h ls]
theorem putsF_snoc (q : Qy) (l : List Evt) : ∀ (ls : List (List Evt)) (i : Nat), putsF q i (ls ++ [l]) = putsF q i ls ++ ((rightL low64 l).filterMap (cntP q)).map (sideP (onS q (i + ls.length)))
 | [], i => by simp [putsF]
 | x :: ls, i => by
  simp only [List.cons_append, putsF, putsF_snoc q l ls, List.append_assoc, List.length_cons]
  rw [show i + 1 + ls.length = i + (ls.length + 1) by omega]
theorem putsF_len (q : Qy) {n : Nat} : ∀ (ls : List (List Evt)) (i : Nat), (∀ l ∈ ls, l.length ≤ n) → (putsF q i ls).length ≤ ls.length * n
 | [], _, _ => by simp [putsF]
 | l :: ls, i, h => by
  have := putsF_len q ls (i + 1) (fun x hx => h x (List.mem_cons_of_mem _ hx))
  have h1 := h l List.mem_cons_self
  have h2 := rightL_len l low64
  have h3 := List.length_filterMap_le (cntP q) (rightL low64 l)
  simp only [putsF, List.length_append, List.length_map, List.length_cons, Nat.add_mul]
  omega
theorem putsF_ok {q : Qy} (hq : q.jo = true → q.src.length = 2) : ∀ (ls : List (List Evt)) (i : Nat), i + ls.length ≤ q.src.length → (∀ l ∈ ls, ∀ e ∈ l, etok e = true) → ∀ p ∈ putsF q i ls, okP p
 | [], _, _, _, _, h => by cases h
 | l :: ls, i, hi, hok, p, h => by
  simp only [putsF, List.mem_append] at h
  simp only [List.length_cons] at hi
  rcases h with h | h
  ·obtain ⟨x, hx, rfl⟩ := List.mem_map.1 h
   obtain ⟨y, hy, hyx⟩ := List.mem_filterMap.1 hx
   obtain ⟨e, he, h1, rfl⟩ := rightL_mem _ _ _ hy
   have hk := hok l List.mem_cons_self e he
   unfold etok at hk
   rw [h1, if_neg (by simp)] at hk
   simp only [Bool.and_eq_true, timeI, decide_eq_true_eq] at hk
   have ht := (cnt_t hyx).1
   refine ⟨?_, ?_⟩
   ·show -1099511627776 ≤ x.t ∧ x.t ≤ 1099511627776
    rw [ht]; exact hk.2
   ·show onS q i = 0 ∨ onS q i = 1
    unfold onS
    by_cases hj : q.jo = true
    ·have := hq hj
     rw [if_pos hj]; omega
    ·rw [if_neg hj]; exact .inl rfl
  ·exact putsF_ok hq ls (i + 1) (by omega) (fun x hx => hok x (List.mem_cons_of_mem _ hx)) p h
end Go.Proofs.YtnljihjhmgpcoaaGreat
namespace Go.Proofs.YtnljihjhmgpcoaaGreat
open Go Go.RowKit Go.ChangeShapes Go.WideShapes Go.ChangeAt Go.Deep
theorem itruth_any (b : Bool) (w : World) : Calls Tryz.prog 132 #[.bool b] w fun e w' => e = .returned (.int .i64 (b2i b)) ∧ w = w' := by
 cases b
 all_goals
  go_enter Tryz.func132, Tryz.ntmps132
  go_wp2
  go_ret
  exact ⟨rfl, rfl⟩
theorem int_beq (x y : Int) : (x == y) = decide (x = y) := rfl
theorem int_bne (x y : Int) : (x != y) = !decide (x = y) := rfl
set_option maxHeartbeats 16000000 in
set_option maxRecDepth 100000 in
theorem ido_any (k a b : Int) (hk : 5 ≤ k ∧ k ≤ 19) (w : World) : Calls Tryz.prog 104 #[.int .u8 k, .int .i64 a, .int .i64 b] w fun e w' => e = .returned (.tuple #[.int .i64 (doI k a b), .int .i64 0]) ∧ w = w' := by
 obtain ⟨m1, m2⟩ := sh63_bd b
 unfold sh63 at m1 m2
 have ht := fun b W => itruth_any b W
 have HT := Lib.hid ht
 clear ht
 have h : k = 5 ∨ k = 6 ∨ k = 7 ∨ k = 8 ∨ k = 9 ∨ k = 10 ∨ k = 11 ∨ k = 12 ∨ k = 13 ∨ k = 14 ∨ k = 15 ∨ k = 16 ∨ k = 17 ∨ k = 18 ∨ k = 19 := by omega
 rcases h with rfl | rfl | rfl | rfl | rfl | rfl | rfl | rfl | rfl | rfl | rfl | rfl | rfl | rfl | rfl
 ·go_enter Tryz.func104, Tryz.ntmps104
  go_wp2_with fail
  go_ret2
  exact ⟨by simp [doI], rfl⟩
 ·go_enter Tryz.func104, Tryz.ntmps104
  go_wp2_with fail
  go_at_call 132
  refine (HT.out _ _).mono ?_
  rintro r w2 ⟨rfl, rfl⟩
  go_wp2_with fail
  go_ret2
  exact ⟨by simp [doI, int_beq], rfl⟩
 ·go_enter Tryz.func104, Tryz.ntmps104
  go_wp2_with fail
  go_ret2
  exact ⟨by simp [doI], rfl⟩
 ·go_enter Tryz.func104, Tryz.ntmps104
  go_wp2_with fail
  go_ret2
  exact ⟨by simp [doI], rfl⟩
 ·go_enter Tryz.func104, Tryz.ntmps104
  go_wp2_with fail
  go_ret2
  exact ⟨by simp [doI], rfl⟩
 ·go_enter Tryz.func104, Tryz.ntmps104
  go_wp2_with fail
  go_ret2
  exact ⟨by simp [doI, sh63], rfl⟩
 ·go_enter Tryz.func104, Tryz.ntmps104
  go_wp2_with fail
  go_ret2
  exact ⟨by simp [doI, sh63], rfl⟩
 rotate_left 6
 ·by_cases ha : a = 0
  ·have d1 : (a != 0) = false := by simp [ha]
   have HA := Lib.hid ha
   clear ha
   go_enter Tryz.func104, Tryz.ntmps104
   go_wp2_with fail
   go_at_call 132
   refine (HT.out _ _).mono ?_
   rintro r w2 ⟨rfl, rfl⟩
   go_wp2_with fail
   go_ret2
   exact ⟨by simp [doI, HA.out], rfl⟩
  ·have d1 : (a != 0) = true := by simp [ha]
   have HA := Lib.hid ha
   clear ha
   go_enter Tryz.func104, Tryz.ntmps104
   go_wp2_with fail
   go_at_call 132
   refine (HT.out _ _).mono ?_
   rintro r w2 ⟨rfl, rfl⟩
   go_wp2_with fail
   go_ret2
   exact ⟨by simp [doI, HA.out, int_bne], rfl⟩
 all_goals
  go_enter Tryz.func104, Tryz.ntmps104
  go_wp2_with (go_at_call 132; refine (HT.out _ _).mono ?_; rintro r w2 ⟨rfl, rfl⟩)
  all_goals
   go_ret2
   exact ⟨by simp [doI, int_beq, int_bne], rfl⟩
end Go.Proofs.YtnljihjhmgpcoaaGreat
namespace Go.Proofs.YtnljihjhmgpcoaaGreat
open Go.RowKit
def rightN (x : Nd) (a b : Int) : Bool := decide ((1 ≤ x.k ∧ x.k ≤ 19) ∧ 0 ≤ x.n ∧ (x.n = 0 ∨ x.k = 1) ∧ (0 ≤ x.p ∧ x.p ≤ 400) ∧ x.a = a ∧ x.b = b)
/-- The trees so far, and that of one node more. -/
def trStep (T : List Ex) (x : Nd) : Option (List Ex) :=
 if x.k ≤ 4 then (if rightN x 0 0 = true then some (T ++ [.lf x.k x.n x.p]) else none)
 else if T.length = 0 then none
 else if x.k ≤ 6 then (if rightN x ((T.length - 1 : Nat) : Int) 0 = true then some (T ++ [.un x.k x.p (T.getD (T.length - 1) default)]) else none)
 else if T.length ≤ (T.getD (T.length - 1) default).size then none
 else if rightN x ((T.length - 1 - (T.getD (T.length - 1) default).size : Nat) : Int) ((T.length - 1 : Nat) : Int) = true then some (T ++ [.bn x.k x.p (T.getD (T.length - 1 - (T.getD (T.length - 1) default).size) default) (T.getD (T.length - 1) default)]) else none
def trF : List Ex → List Nd → Option (List Ex)
 | T, [] => some T
 | T, x :: l => match trStep T x with
  | none => none
  | some T' => trF T' l
def trT (T : List Ex) (i : Nat) : Ex := T.getD i default
theorem trT_old {T : List Ex} {e : Ex} {i : Nat} (h : i < T.length) : trT (T ++ [e]) i = trT T i := by
 unfold trT; rw [List.getD_eq_getElem?_getD, List.getD_eq_getElem?_getD, List.getElem?_append_left h]
theorem trT_new {T : List Ex} {e : Ex} {i : Nat} (h : i = T.length) : trT (T ++ [e]) i = e := by
 subst h; unfold trT; simp
theorem trStep_len {T T' : List Ex} {x : Nd} (h : trStep T x = some T') : T'.length = T.length + 1 := by
 unfold trStep at h
 split at h
 ·split at h
  ·rw [← Option.some.inj h]; simp
  ·cases h
 ·split at h
  ·cases h
  ·split at h
   ·split at h
    ·rw [← Option.some.inj h]; simp
    ·cases h
   ·split at h
    ·cases h
    ·split at h
     ·rw [← Option.some.inj h]; simp
     ·cases h
/-- In range as int64. -/
def n64 (x : Nd) : Prop := x.n ≤ 9223372036854775807
theorem trStep_at {T T' : List Ex} {x : Nd} (hx : n64 x) (h : trStep T x = some T') : (∀ j, j < T.length → trT T' j = trT T j) ∧ NodeAt (trT T') T.length x := by
 unfold n64 at hx
 unfold trStep at h
 split at h
 ·rename_i h4
  split at h
  ·rename_i hr
   obtain rfl := Option.some.inj h
   unfold rightN at hr
   simp only [decide_eq_true_eq] at hr
   obtain ⟨hk, hn, hn1, hp, ha, hb⟩ := hr
   exact ⟨fun j hj => trT_old hj, .inl ⟨trT_new rfl, ⟨by omega, by omega, by omega⟩, ha, hb, hp⟩⟩
  ·cases h
 ·rename_i h4
  split at h
  ·cases h
  ·rename_i h0
   split at h
   ·rename_i h6
    split at h
    ·rename_i hr
     obtain rfl := Option.some.inj h
     unfold rightN at hr
     simp only [decide_eq_true_eq] at hr
     obtain ⟨hk, hn, hn1, hp, ha, hb⟩ := hr
     refine ⟨fun j hj => trT_old hj, .inr (.inl ⟨T.length - 1, by omega, ?_, by omega, by omega, ha, hb, hp⟩)⟩
     rw [trT_new rfl, trT_old (by omega)]; rfl
    ·cases h
   ·rename_i h6
    split at h
    ·cases h
    ·rename_i hsz
     split at h
     ·rename_i hr
      obtain rfl := Option.some.inj h
      unfold rightN at hr
      simp only [decide_eq_true_eq] at hr
      obtain ⟨hk, hn, hn1, hp, ha, hb⟩ := hr
      refine ⟨fun j hj => trT_old hj, .inr (.inr ⟨T.length - 1, T.length - 1 - (trT T (T.length - 1)).size, by omega, ?_, ?_, by omega, by omega, ha, hb, hp⟩)⟩
      ·rw [trT_old (by omega)]
       have : ¬ T.length ≤ (trT T (T.length - 1)).size := hsz
       omega
      ·rw [trT_new rfl, trT_old (by omega), trT_old (by omega)]; rfl
     ·cases h
theorem trok_step {l : List Nd} {k : Nat} {T T' : List Ex} {x : Nd} (hx64 : n64 x) (h : TrOk (l.take k) (trT T)) (hT : T.length = k) (hx : l[k]? = some x) (hs : trStep T x = some T') : TrOk (l.take (k + 1)) (trT T') := by
 obtain ⟨h1, h2⟩ := trStep_at hx64 hs
 intro i y hy
 have hlt := (List.getElem?_eq_some_iff.1 hy).1
 rw [List.length_take] at hlt
 rw [List.getElem?_take] at hy
 split at hy
 ·by_cases hik : i = k
  ·subst hik
   rw [hx] at hy
   obtain rfl := Option.some.inj hy
   rw [hT] at h2; exact h2
  ·have h3 := h i y (by rw [List.getElem?_take, if_pos (by omega)]; exact hy)
   exact nodeAt_ext h3 fun j hj => h1 j (by omega)
 ·cases hy
theorem trF_cons {T : List Ex} {l : List Nd} {k : Nat} {x : Nd} (hx : l[k]? = some x) : trF T (l.drop k) = match trStep T x with | none => none | some T' => trF T' (l.drop (k + 1)) := by
 obtain ⟨h1, rfl⟩ := List.getElem?_eq_some_iff.1 hx
 rw [List.drop_eq_getElem_cons h1]
 rfl
def okT (T : List Ex) (n : Nat) : Bool := decide (0 < n) && decide ((trT T (n - 1)).size = n)
def chk04 (l : List Nd) : Int := if 60 < l.length then 4 else match trF [] l with
 | none => 8
 | some T => if okT T l.length = false then 8 else if 20 < (trT T (l.length - 1)).deep then 34 else 0
theorem trF_ok (l : List Nd) (h64 : ∀ x ∈ l, n64 x) : ∀ (m k : Nat) (T T' : List Ex), k + m = l.length → T.length = k → TrOk (l.take k) (trT T) → trF T (l.drop k) = some T' → TrOk l (trT T') ∧ T'.length = l.length
 | 0, k, T, T', hk, hT, ht, h => by
  have : l.drop k = [] := List.drop_of_length_le (by omega)
  rw [this] at h
  obtain rfl := Option.some.inj h
  rw [List.take_of_length_le (by omega)] at ht
  exact ⟨ht, by omega⟩
 | m + 1, k, T, T', hk, hT, ht, h => by
  obtain ⟨x, hx⟩ : ∃ x, l[k]? = some x := ⟨_, List.getElem?_eq_getElem (by omega)⟩
  rw [trF_cons hx] at h
  cases hs : trStep T x with
  | none => rw [hs] at h; cases h
  | some T1 =>
   rw [hs] at h
   exact trF_ok l h64 m (k + 1) T1 T' (by omega) (by rw [trStep_len hs]; omega) (trok_step (h64 x (List.mem_of_getElem? hx)) ht hT hx hs) h
theorem chk04_good {l : List Nd} (h64 : ∀ x ∈ l, n64 x) (h : chk04 l = 0) : ∃ e : Ex, e.good ∧ l = e.flat 0 ∧ e.size = l.length := by
 unfold chk04 at h
 split at h
 ·cases h
 ·rename_i h60
  split at h
  ·cases h
  ·rename_i T hT
   split at h
   ·cases h
   ·rename_i hok
    split at h
    ·cases h
    ·rename_i hdp
     obtain ⟨h1, h2⟩ := trF_ok l h64 l.length 0 [] T (by omega) rfl (by intro i x hx; simp at hx) (by simpa using hT)
     have hok' : 0 < l.length ∧ (trT T (l.length - 1)).size = l.length := by
      simpa [okT] using hok
     obtain ⟨f1, f2⟩ := flat_of h1 hok'.1 hok'.2
     exact ⟨_, ⟨f2, by omega, by omega⟩, f1, hok'.2⟩
theorem nodeAt_kind {tr : Nat → Ex} {i : Nat} {x : Nd} (h : NodeAt tr i x) : (tr i).kind = x.k := by
 rcases h with ⟨e, _⟩ | ⟨j, _, e, _⟩ | ⟨j, m, _, _, e, _⟩ <;> rw [e] <;> rfl
def dupB (l : List Int) : Bool := (List.range l.length).any fun i => (l.take i).any fun y => y == l.getD i 0
def srcB (l : List Int) (jo : Bool) : Int := if 4 < l.length then 4 else if l.length = 0 ∨ (jo = true ∧ l.length ≠ 2) then 8 else if (l.any fun x => decide (x < 0 ∨ 3 < x)) = true then 8 else if dupB l = true then 43 else 0
theorem nodup_of {l : List Int} (h : dupB l = false) : l.Nodup := by
 rw [List.nodup_iff_pairwise_ne, List.pairwise_iff_getElem]
 intro i j hi hj hij he
 unfold dupB at h
 rw [List.any_eq_false] at h
 have h1 := h j (List.mem_range.2 hj)
 rw [Bool.not_eq_true, List.any_eq_false] at h1
 have h2 := h1 (l[i]) (List.mem_take_iff_getElem.2 ⟨i, by omega, rfl⟩)
 apply h2
 rw [List.getD_eq_getElem?_getD, List.getElem?_eq_getElem hj]
 simpa using he
theorem srcB_ok {l : List Int} {jo : Bool} (h : srcB l jo = 0) : srcok l ∧ (jo = true → l.length = 2) := by
 unfold srcB at h
 split at h
 ·cases h
 ·split at h
  ·cases h
  ·rename_i h0
   split at h
   ·cases h
   ·rename_i hin
    split at h
    ·cases h
    ·rename_i hd
     refine ⟨⟨⟨by omega, by omega⟩, fun x hx => ?_, nodup_of (by simpa using hd)⟩, fun hj => ?_⟩
     ·have h1 : ¬ (x < 0 ∨ 3 < x) := fun hc => hin (List.any_eq_true.2 ⟨x, hx, by simpa using hc⟩)
      omega
     ·rcases Nat.decEq l.length 2 with h2 | h2
      ·exact absurd (.inr ⟨hj, h2⟩) h0
      ·exact h2
def chk08 (ag : Int) (arg : List Nd) (src : List Int) (jo : Bool) (wh : List Nd) (wk ws we la : Int) : Int :=
 if ag < 1 ∨ 4 < ag ∨ la < 1 ∨ 2 < la then 8 else if ag = 1 ∧ 0 < arg.length then 8 else if ag ≠ 1 ∧ chk04 arg ≠ 0 then chk04 arg else if 0 < wh.length ∧ chk04 wh ≠ 0 then chk04 wh
 else if srcB src jo ≠ 0 then srcB src jo else if ¬ wok wk ws we ∨ (jo = true ∧ wk ≠ 1) then 8 else 0
/-- An expression that is typed, and gives truths or numbers. -/
def typed (l : List Nd) (b : Bool) : Prop := ∃ e : Ex, e.good ∧ l = e.flat 0 ∧ e.wt = true ∧ e.gives = b
theorem qy_of {ag : Int} {arg : List Nd} {src : List Int} {jo : Bool} {wh : List Nd} {wk ws we la : Int} (ky : Bool) (ha64 : ∀ x ∈ arg, n64 x) (hw64 : ∀ x ∈ wh, n64 x) (h : chk08 ag arg src jo wh wk ws we la = 0)
  (ha : 0 < arg.length → typed arg false) (hw : 0 < wh.length → typed wh true) :
  ∃ q : Qy, q.good ∧ q.ag = ag ∧ opl q.arg = arg ∧ q.src = src ∧ q.jo = jo ∧ opl q.wh = wh ∧ q.wk = wk ∧ q.ws = ws ∧ q.we = we ∧ q.ky = ky ∧ q.la = la := by
 unfold chk08 at h
 split at h
 ·cases h
 ·rename_i h1
  split at h
  ·cases h
  ·rename_i h2
   split at h
   ·rename_i h3; exact absurd h h3.2
   ·rename_i h3
    split at h
    ·rename_i h4; exact absurd h h4.2
    ·rename_i h4
     split at h
     ·rename_i h5; exact absurd h h5
     ·rename_i h5
      split at h
      ·cases h
      ·rename_i h6
       have hsrc := srcB_ok (by omega : srcB src jo = 0)
       have hwin : wok wk ws we := Classical.byContradiction fun hc => h6 (.inl hc)
       have htum : jo = true → wk = 1 := fun hj => Classical.byContradiction fun hc => h6 (.inr ⟨hj, hc⟩)
       have hA : ∃ o : Option Ex, opl o = arg ∧ (ag = 1 ↔ o = none) ∧ ∀ e, o = some e → e.good ∧ e.wt = true ∧ e.gives = false := by
        by_cases hag : ag = 1
        ·refine ⟨none, ?_, by simp [hag], fun e he => by cases he⟩
         have : arg.length = 0 := by omega
         rw [List.eq_nil_of_length_eq_zero this]; rfl
        ·obtain ⟨e, e1, e2, e3⟩ := chk04_good ha64 (by omega)
         have hpos := e.size_pos
         obtain ⟨f, f1, f2, f3, f4⟩ := ha (by omega)
         refine ⟨some f, f2.symm, by simp [hag], fun e' he' => ?_⟩
         obtain rfl := Option.some.inj he'
         exact ⟨f1, f3, f4⟩
       have hW : ∃ o : Option Ex, opl o = wh ∧ ∀ e, o = some e → e.good ∧ e.wt = true ∧ e.gives = true := by
        by_cases hl : wh.length = 0
        ·refine ⟨none, ?_, fun e he => by cases he⟩
         rw [List.eq_nil_of_length_eq_zero hl]; rfl
        ·obtain ⟨e, e1, e2, e3⟩ := chk04_good hw64 (by omega)
         obtain ⟨f, f1, f2, f3, f4⟩ := hw (by omega)
         refine ⟨some f, f2.symm, fun e' he' => ?_⟩
         obtain rfl := Option.some.inj he'
         exact ⟨f1, f3, f4⟩
       obtain ⟨oa, a1, a2, a3⟩ := hA
       obtain ⟨ow, w1, w2⟩ := hW
       exact ⟨⟨ag, oa, src, jo, ow, wk, ws, we, ky, la⟩, ⟨by simp only; omega, by simp only; omega, a2, a3, w2, hsrc.1, hsrc.2, hwin, htum⟩, rfl, a1, rfl, rfl, w1, rfl, rfl, rfl, rfl, rfl⟩
end Go.Proofs.YtnljihjhmgpcoaaGreat
