/- What a store holds of the records that were put in (chapter 17): plain. No condition. -/
import Derived.Test.YtbbdepeifdbbdaaKitE
import Derived.Test.YtbbdepeifdbbdaaKitD
namespace Go.Proofs.Ytbbdepeifdbbdaa
open Go.RowKit

/-! ### accumulators of values, in whatever order -/
theorem accV_ok (v : Int) : (accV v).ok := .inr (.inl ⟨rfl, rfl, rfl⟩)
theorem acc0_ok : acc0.ok := .inl ⟨rfl, rfl, rfl, rfl⟩
theorem acc0_wk : acc0.wk := wk_ok acc0_ok
theorem accV_wk (v : Int) : (accV v).wk := wk_ok (accV_ok v)
theorem aboth_0l (a : Acc) : aboth acc0 a = a := by simp [aboth, acc0]
theorem aboth_0r {a : Acc} (h : a.wk) : aboth a acc0 = a := by rw [both_comm h acc0_wk, aboth_0l]
theorem afold_cons_from (a : Acc) (ha : a.wk) : ∀ (xs : List Int), xs.foldl (fun a v => aboth a ⟨1, v, v, v⟩) a = aboth a (afold xs) ∧ (afold xs).wk
  | [] => ⟨(aboth_0r ha).symm, acc0_wk⟩
  | v :: xs => by
    have h1 := afold_cons_from (accV v) (accV_wk v) xs
    have e0 : afold (v :: xs) = aboth (accV v) (afold xs) := by
      have : afold (v :: xs) = xs.foldl (fun a v => aboth a ⟨1, v, v, v⟩) (aboth acc0 (accV v)) := rfl
      rw [this, aboth_0l]; exact h1.1
    have h2 := afold_cons_from (aboth a (accV v)) (both_wk ha (accV_wk v)) xs
    refine ⟨?_, by rw [e0]; exact both_wk (accV_wk v) h1.2⟩
    rw [e0, ← both_assoc ha (accV_wk v) h1.2, ← h2.1]
    rfl
theorem afold_wk (xs : List Int) : (afold xs).wk := (afold_cons_from acc0 acc0_wk xs).2
theorem afold_cons (v : Int) (xs : List Int) : afold (v :: xs) = aboth (accV v) (afold xs) := by
  have : afold (v :: xs) = xs.foldl (fun a v => aboth a ⟨1, v, v, v⟩) (aboth acc0 (accV v)) := rfl
  rw [this, aboth_0l]; exact (afold_cons_from (accV v) (accV_wk v) xs).1
theorem afold_append (xs ys : List Int) : afold (xs ++ ys) = aboth (afold xs) (afold ys) := by
  have : afold (xs ++ ys) = ys.foldl (fun a v => aboth a ⟨1, v, v, v⟩) (afold xs) := by simp [afold]
  rw [this]; exact (afold_cons_from _ (afold_wk xs) ys).1
theorem afold_perm {xs ys : List Int} (h : xs.Perm ys) : afold xs = afold ys := by
  induction h with
  | nil => rfl
  | cons x _ ih => rw [afold_cons, afold_cons, ih]
  | swap x y l => rw [afold_cons, afold_cons, afold_cons, afold_cons, ← both_assoc (accV_wk _) (accV_wk _) (afold_wk l), ← both_assoc (accV_wk _) (accV_wk _) (afold_wk l), both_comm (accV_wk y) (accV_wk x)]
  | trans _ _ h1 h2 => exact h1.trans h2
theorem afold_c (xs : List Int) : (afold xs).c = xs.length := by
  induction xs with
  | nil => rfl
  | cons v xs ih =>
    rw [afold_cons, both_c (accV_wk v) (afold_wk xs), ih]
    show (1 : Int) + _ = _
    simp; omega

/-! ### records, with their sides -/
structure Pt where
  k : Int
  t : Int
  v : Int
  d : Int
deriving DecidableEq
instance : Inhabited Pt := ⟨⟨0, 0, 0, 0⟩⟩
/-- The accumulator of some records. -/
def accP (q : Pt → Bool) (P : List Pt) : Acc := afold ((P.filter q).map Pt.v)
theorem accP_wk (q : Pt → Bool) (P : List Pt) : (accP q P).wk := afold_wk _
theorem accP_c (q : Pt → Bool) (P : List Pt) : (accP q P).c = (P.filter q).length := by unfold accP; rw [afold_c]; simp
theorem accP_ok (q : Pt → Bool) {P : List Pt} (h : P.length ≤ 1073741824) : (accP q P).ok := by
  refine (afold_ok _ ?_).1
  rw [List.length_map]
  exact Nat.le_trans (List.length_filter_le _ _) h
theorem accP_snoc (q : Pt → Bool) (P : List Pt) (p : Pt) : accP q (P ++ [p]) = if q p = true then aboth (accP q P) (accV p.v) else accP q P := by
  unfold accP
  rw [List.filter_append]
  by_cases h : q p = true
  · rw [if_pos h]; simp only [List.filter_cons, List.filter_nil, h, if_true, List.map_append, List.map_cons, List.map_nil, afold_append]; rfl
  · rw [if_neg h]; simp [h]
theorem accP_congr {q r : Pt → Bool} {P : List Pt} (h : ∀ p ∈ P, q p = r p) : accP q P = accP r P := by
  unfold accP; rw [List.filter_congr h]
theorem accP_none {q : Pt → Bool} {P : List Pt} (h : ∀ p ∈ P, q p = false) : accP q P = acc0 := by
  unfold accP; rw [List.filter_eq_nil_iff.2 (fun p hp => by simp [h p hp])]; rfl
/-- Of two sorts of records together. -/
theorem accP_or {q r : Pt → Bool} {P : List Pt} (h : ∀ p ∈ P, q p = true → r p = false) : accP (fun p => q p || r p) P = aboth (accP q P) (accP r P) := by
  unfold accP
  rw [← afold_append, ← List.map_append]
  refine afold_perm (List.Perm.map _ ?_)
  have h0 := List.filter_append_perm q (P.filter fun p => q p || r p)
  refine h0.symm.trans (List.Perm.of_eq ?_)
  rw [List.filter_filter, List.filter_filter]
  congr 1
  · refine List.filter_congr (fun p _ => ?_)
    cases q p <;> simp
  · refine List.filter_congr (fun p hp => ?_)
    have := h p hp
    cases hq : q p <;> simp_all
/-- A record is one of an entry's. -/
def inE (x : En) (p : Pt) : Bool := decide (p.k = x.k ∧ x.s ≤ p.t ∧ p.t < x.e)
def sideE (d : Int) (x : En) (p : Pt) : Bool := inE x p && decide (p.d = d)
/-- An entry has the accumulators of its records. -/
def Rig (P : List Pt) (x : En) : Prop := x.a = accP (sideE 0 x) P ∧ x.b = accP (sideE 1 x) P
theorem sideE_congr {d : Int} {x y : En} (h1 : x.k = y.k) (h2 : x.s = y.s) (h3 : x.e = y.e) : sideE d x = sideE d y := by
  funext p; unfold sideE inE; rw [h1, h2, h3]
theorem Rig.unique {P : List Pt} {x y : En} (hx : Rig P x) (hy : Rig P y) (h1 : x.k = y.k) (h2 : x.s = y.s) (h3 : x.e = y.e) : x = y := by
  refine en_ext h1 h2 h3 ?_ ?_
  · rw [hx.1, hy.1, sideE_congr h1 h2 h3]
  · rw [hx.2, hy.2, sideE_congr h1 h2 h3]
/-- A record that is not an entry's changes nothing. -/
theorem Rig.far {P : List Pt} {x : En} {p : Pt} (h : inE x p = false) : Rig (P ++ [p]) x ↔ Rig P x := by
  unfold Rig
  rw [accP_snoc, accP_snoc, if_neg (by simp [sideE, h]), if_neg (by simp [sideE, h])]
/-- The entry of a key and a span, of some records. -/
def entP (P : List Pt) (k s e : Int) : En := mkEn k s e (accP (sideE 0 ⟨k, s, e, 0, 0, 0, 0, 0, 0, 0, 0⟩) P) (accP (sideE 1 ⟨k, s, e, 0, 0, 0, 0, 0, 0, 0, 0⟩) P)
theorem entP_rig (P : List Pt) (k s e : Int) : Rig P (entP P k s e) := ⟨by rw [sideE_congr (x := entP P k s e) (y := ⟨k, s, e, 0, 0, 0, 0, 0, 0, 0, 0⟩) rfl rfl rfl]; rfl, by rw [sideE_congr (x := entP P k s e) (y := ⟨k, s, e, 0, 0, 0, 0, 0, 0, 0, 0⟩) rfl rfl rfl]; rfl⟩
theorem Rig.wk {P : List Pt} {x : En} (h : Rig P x) : x.a.wk ∧ x.b.wk := by rw [h.1, h.2]; exact ⟨accP_wk _ _, accP_wk _ _⟩
theorem Rig.count {P : List Pt} (hd : ∀ p ∈ P, p.d = 0 ∨ p.d = 1) {x : En} (h : Rig P x) {p : Pt} (hp : p ∈ P) (hin : inE x p = true) : 0 < x.c1 + x.c2 := by
  have h1 : x.c1 = (P.filter (sideE 0 x)).length := by have := accP_c (sideE 0 x) P; rw [← h.1] at this; exact this
  have h2 : x.c2 = (P.filter (sideE 1 x)).length := by have := accP_c (sideE 1 x) P; rw [← h.2] at this; exact this
  rcases hd p hp with h0 | h0
  · have : p ∈ P.filter (sideE 0 x) := List.mem_filter.2 ⟨hp, by simp [sideE, hin, h0]⟩
    have := List.length_pos_of_mem this
    omega
  · have : p ∈ P.filter (sideE 1 x) := List.mem_filter.2 ⟨hp, by simp [sideE, hin, h0]⟩
    have := List.length_pos_of_mem this
    omega
theorem Rig.le {P : List Pt} {x : En} (h : Rig P x) : x.c1 ≤ P.length ∧ x.c2 ≤ P.length := by
  have h1 : x.c1 = (P.filter (sideE 0 x)).length := by have := accP_c (sideE 0 x) P; rw [← h.1] at this; exact this
  have h2 : x.c2 = (P.filter (sideE 1 x)).length := by have := accP_c (sideE 1 x) P; rw [← h.2] at this; exact this
  have := List.length_filter_le (sideE 0 x) P
  have := List.length_filter_le (sideE 1 x) P
  omega

/-! ### windows of times -/
def evW (k s e : Int) : Int := if k = 1 then s else e
theorem mem_wspans {wk ws we t : Int} (h : wok wk ws we) (hk : wk ≠ 3) (t1 : -1099511627776 ≤ t) (t2 : t ≤ 1099511627776) (p : Int × Int) :
    p ∈ wspans wk ws we t ↔ p.2 = p.1 + ws ∧ p.1 % evW wk ws we = 0 ∧ p.1 ≤ t ∧ t < p.1 + ws := by
  obtain ⟨⟨s1, s2⟩, h⟩ := h
  unfold wspans evW
  by_cases h1 : wk = 1
  · rw [if_pos h1, if_pos h1]
    have ht : tchk t ws = 0 := tchk_zero.2 ⟨s1, s2, t1, t2⟩
    have e : tspan t ws = (t / ws * ws, t / ws * ws + ws) := by unfold tspan; rw [if_pos ht]
    rw [e, List.mem_singleton]
    have hd := Int.mul_ediv_add_emod t ws
    have hm := Int.emod_nonneg t (show ws ≠ 0 by omega)
    have hm2 := Int.emod_lt_of_pos t (show 0 < ws by omega)
    constructor
    · rintro rfl
      have hc : t / ws * ws = ws * (t / ws) := Int.mul_comm _ _
      refine ⟨rfl, Int.mul_emod_left _ _, ?_, ?_⟩ <;> simp only <;> omega
    · rintro ⟨e1, e2, e3, e4⟩
      obtain ⟨q, hq⟩ : ∃ q, p.1 = ws * q := ⟨p.1 / ws, by have := Int.mul_ediv_add_emod p.1 ws; omega⟩
      have hq2 : t / ws = q := by
        have h5 : t = q * ws + (t - q * ws) := by omega
        have hcc : q * ws = ws * q := Int.mul_comm _ _
        rw [h5, Int.mul_comm q ws, Int.add_comm, Int.add_mul_ediv_left _ _ (by omega), Int.ediv_eq_zero_of_lt (by omega) (by omega)]
        omega
      rw [hq2]
      have hc : q * ws = ws * q := Int.mul_comm _ _
      exact Prod.ext (by simp only; omega) (by simp only; omega)
  · rw [if_neg h1, if_neg h1]
    have h2 : wk = 2 ∧ 1 ≤ we ∧ we ≤ ws ∧ ws ≤ 16 * we := by omega
    obtain ⟨-, w1, w2, w3⟩ := h2
    unfold swins swk
    rw [List.mem_map]
    constructor
    · rintro ⟨i, hi, rfl⟩
      have hi' := (List.mem_filter.1 hi).2
      unfold swin at hi'
      simp only [decide_eq_true_eq] at hi'
      exact ⟨rfl, Int.mul_emod_left _ _, hi'.1, hi'.2⟩
    · rintro ⟨e1, e2, e3, e4⟩
      obtain ⟨q, hq⟩ : ∃ q, p.1 = we * q := ⟨p.1 / we, by have := Int.mul_ediv_add_emod p.1 we; omega⟩
      have hc : q * we = we * q := Int.mul_comm _ _
      have hd := Int.mul_ediv_add_emod t we
      have hm := Int.emod_nonneg t (show we ≠ 0 by omega)
      have hm2 := Int.emod_lt_of_pos t (show 0 < we by omega)
      have hle : q ≤ t / we := by
        rcases Int.lt_or_le (t / we) q with hlt | hge
        · have := Int.mul_le_mul_of_nonneg_left (show t / we + 1 ≤ q by omega) (show 0 ≤ we by omega)
          rw [Int.mul_add] at this
          omega
        · exact hge
      have hge : t / we - 16 ≤ q := by
        rcases Int.lt_or_le q (t / we - 16) with hlt | hge
        · have := Int.mul_le_mul_of_nonneg_left (show q + 17 ≤ t / we by omega) (show 0 ≤ we by omega)
          rw [Int.mul_add] at this
          omega
        · exact hge
      refine ⟨q, List.mem_filter.2 ⟨?_, ?_⟩, Prod.ext (by simp only; omega) (by simp only; omega)⟩
      · rw [List.mem_map]
        refine ⟨(q - (t / we - 16)).toNat, List.mem_range.2 (by omega), by omega⟩
      · unfold swin; simp only [decide_eq_true_eq]; omega
theorem wspans_nodup {wk ws we t : Int} (h : wok wk ws we) (hk : wk ≠ 3) : (wspans wk ws we t).Pairwise (fun p q => p.1 < q.1) := by
  obtain ⟨⟨s1, s2⟩, h⟩ := h
  unfold wspans
  by_cases h1 : wk = 1
  · rw [if_pos h1]; simp
  · rw [if_neg h1]
    have h2 : wk = 2 ∧ 1 ≤ we ∧ we ≤ ws ∧ ws ≤ 16 * we := by omega
    obtain ⟨-, w1, w2, w3⟩ := h2
    unfold swins swk
    rw [List.pairwise_map]
    refine List.Pairwise.filter _ ?_
    rw [List.pairwise_map]
    refine List.pairwise_lt_range.imp ?_
    intro a b hab
    have hab' : t / we - 16 + (a : Int) + 1 ≤ t / we - 16 + (b : Int) := by omega
    have := Int.mul_le_mul_of_nonneg_right hab' (show 0 ≤ we by omega)
    rw [Int.add_mul] at this
    simp only
    omega
theorem wspans_16 {wk ws we t : Int} (h : wok wk ws we) (hk : wk ≠ 3) : (wspans wk ws we t).length ≤ 16 := by
  obtain ⟨⟨s1, s2⟩, h⟩ := h
  unfold wspans
  by_cases h1 : wk = 1
  · rw [if_pos h1]; simp
  · rw [if_neg h1]
    have h2 : wk = 2 ∧ 1 ≤ we ∧ we ≤ ws ∧ ws ≤ 16 * we := by omega
    have hr : sright ws we := ⟨s1, h2.2.1, s2, h2.2.2.1, h2.2.2.2⟩
    rw [swins_len hr]
    exact (scount_facts hr).2.1

/-! ### what a store holds: no sessions -/
/-- A record whose time and side are right. -/
def okP (p : Pt) : Prop := (-1099511627776 ≤ p.t ∧ p.t ≤ 1099511627776) ∧ (p.d = 0 ∨ p.d = 1)
def recP (p : Pt) (q : Int × Int) : En := recE p.k p.v p.d q.1 q.2
theorem recP_f (p : Pt) (q : Int × Int) : (recP p q).k = p.k ∧ (recP p q).s = q.1 ∧ (recP p q).e = q.2 ∧ (recP p q).a = (if p.d = 0 then accV p.v else acc0) ∧ (recP p q).b = (if p.d = 0 then acc0 else accV p.v) := by
  unfold recP recE
  refine ⟨rfl, rfl, rfl, ?_, ?_⟩ <;> split <;> rfl
theorem recP_w {p : Pt} {q : Int × Int} (h : q.1 < q.2) : enw (recP p q) := by
  obtain ⟨h1, h2, h3, h4, h5⟩ := recP_f p q
  refine ⟨by omega, ?_, ?_⟩
  · rw [h4]; split; exact accV_wk _; exact acc0_wk
  · rw [h5]; split; exact acc0_wk; exact accV_wk _
/-- An entry of its key and span joined with the record's. -/
theorem rig_join {P : List Pt} {p : Pt} {q : Int × Int} {y : En} (hd : p.d = 0 ∨ p.d = 1) (hy : Rig P y) (h1 : y.k = p.k) (h2 : y.s = q.1) (h3 : y.e = q.2) (ht : q.1 ≤ p.t ∧ p.t < q.2) : Rig (P ++ [p]) (enJ (recP p q) y) := by
  obtain ⟨r1, r2, r3, r4, r5⟩ := recP_f p q
  have k1 : (enJ (recP p q) y).k = y.k := by show (recP p q).k = _; rw [r1, h1]
  have k2 : (enJ (recP p q) y).s = y.s := by show min (recP p q).s y.s = _; omega
  have k3 : (enJ (recP p q) y).e = y.e := by show max (recP p q).e y.e = _; omega
  have hin : inE y p = true := by unfold inE; simp only [decide_eq_true_eq]; omega
  have wa := hy.wk
  unfold Rig
  rw [sideE_congr (d := 0) k1 k2 k3, sideE_congr (d := 1) k1 k2 k3, accP_snoc, accP_snoc, enJ_a, enJ_b, r4, r5, ← hy.1, ← hy.2]
  rcases hd with h0 | h0
  · have s0 : sideE 0 y p = true := by simp [sideE, hin, h0]
    have s1 : sideE 1 y p = false := by simp [sideE, h0]
    rw [s0, s1, if_pos h0, if_pos h0]
    exact ⟨by rw [if_pos rfl, both_comm (accV_wk _) wa.1], by rw [if_neg (by simp), aboth_0l]⟩
  · have s0 : sideE 0 y p = false := by simp [sideE, h0]
    have s1 : sideE 1 y p = true := by simp [sideE, hin, h0]
    have hn0 : ¬ p.d = 0 := by omega
    simp only [s0, s1, if_neg hn0]
    exact ⟨by rw [if_neg (by simp), aboth_0l], by rw [if_pos (by simp), both_comm (accV_wk _) wa.2]⟩
/-- The first record of a span. -/
theorem rig_new {P : List Pt} {p : Pt} {q : Int × Int} (hd : p.d = 0 ∨ p.d = 1) (hn : ∀ r ∈ P, r.k = p.k → ¬ (q.1 ≤ r.t ∧ r.t < q.2)) (ht : q.1 ≤ p.t ∧ p.t < q.2) : Rig (P ++ [p]) (recP p q) := by
  obtain ⟨r1, r2, r3, r4, r5⟩ := recP_f p q
  have hin : inE (recP p q) p = true := by unfold inE; simp only [decide_eq_true_eq]; omega
  have hno : ∀ d, accP (sideE d (recP p q)) P = acc0 := fun d => accP_none (fun r hr => by
    have := hn r hr
    unfold sideE inE
    rw [r1, r2, r3]
    by_cases hk : r.k = p.k
    · have := this hk
      have h0 : ¬ (r.k = p.k ∧ q.1 ≤ r.t ∧ r.t < q.2) := fun h => this h.2
      simp [h0]
    · simp [hk])
  unfold Rig
  rw [accP_snoc, accP_snoc, hno, hno, r4, r5]
  rcases hd with h0 | h0
  · have s0 : sideE 0 (recP p q) p = true := by simp [sideE, hin, h0]
    have s1 : sideE 1 (recP p q) p = false := by simp [sideE, h0]
    rw [s0, s1, if_pos h0, if_pos h0]
    exact ⟨by rw [if_pos rfl, aboth_0l], by rw [if_neg (by simp)]⟩
  · have s0 : sideE 0 (recP p q) p = false := by simp [sideE, h0]
    have s1 : sideE 1 (recP p q) p = true := by simp [sideE, hin, h0]
    have hn0 : ¬ p.d = 0 := by omega
    simp only [s0, s1, if_neg hn0]
    exact ⟨by rw [if_neg (by simp)], by rw [if_pos (by simp), aboth_0l]⟩
end Go.Proofs.Ytbbdepeifdbbdaa
