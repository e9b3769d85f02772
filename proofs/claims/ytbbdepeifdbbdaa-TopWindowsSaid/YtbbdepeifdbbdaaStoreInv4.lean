/- All records put into an empty store (chapter 17): it is done, and what it holds does not hang on their order. Plain. No condition. -/
import Derived.Test.YtbbdepeifdbbdaaStoreInv3
namespace Go.Proofs.Ytbbdepeifdbbdaa
open Go.RowKit

def InvA (wk ws we : Int) (P : List Pt) (a : List En) : Prop := if wk = 3 then InvS ws P a else InvN wk ws we P a
def winP (wk ws we : Int) (P : List Pt) (k : Int) (sp : Int × Int) : Prop := if wk = 3 then sp ∈ canon (stimes ws (timesK P k)) else winN wk ws we P k sp
theorem inv_ss {wk ws we : Int} {P : List Pt} {a : List En} (h : InvA wk ws we P a) : SS a := by
  unfold InvA at h
  split at h
  · exact h.1
  · exact h.1
theorem inv_mem {wk ws we : Int} {P : List Pt} {a : List En} (h : InvA wk ws we P a) (x : En) : x ∈ a ↔ winP wk ws we P x.k (x.s, x.e) ∧ Rig P x := by
  unfold InvA at h
  unfold winP
  by_cases hk : wk = 3
  · rw [if_pos hk] at h ⊢
    rw [← h.2.1]
    constructor
    · intro hx
      exact ⟨List.mem_map.2 ⟨x, List.mem_filter.2 ⟨hx, by simp⟩, rfl⟩, h.2.2 x hx⟩
    · rintro ⟨h1, h2⟩
      obtain ⟨y, hy, hs⟩ := List.mem_map.1 h1
      obtain ⟨hy1, hy2⟩ := List.mem_filter.1 hy
      have hy2 : y.k = x.k := by simpa using hy2
      simp only [Prod.mk.injEq] at hs
      rw [h2.unique (h.2.2 y hy1) hy2.symm hs.1.symm hs.2.symm]
      exact hy1
  · rw [if_neg hk] at h ⊢
    exact h.2 x
theorem inv_nil (wk ws we : Int) : InvA wk ws we [] [] := by
  unfold InvA
  split
  · refine ⟨List.Pairwise.nil, fun k => ?_, by simp⟩
    have h := canon_len (stimes ws (timesK [] k))
    have e : stimes ws (timesK [] k) = [] := rfl
    rw [e] at h ⊢
    exact (List.eq_nil_of_length_eq_zero (by simpa using h)).symm
  · refine ⟨List.Pairwise.nil, fun x => ?_⟩
    simp [winN]
/-- What a record put in leaves. -/
def rawput (wk ws we : Int) (a : List En) (p : Pt) : List En := if wk = 3 then (putE true a (recP p (p.t, p.t + ws))).1 else (foldW (putE false) (recP p) (wspans wk ws we p.t) a).1
def nW (wk ws we : Int) (p : Pt) : Nat := if wk = 3 then 1 else (wspans wk ws we p.t).length
def sumW (wk ws we : Int) (P : List Pt) : Nat := (P.map (nW wk ws we)).sum
theorem inv_step {wk ws we : Int} {P : List Pt} {p : Pt} {a : List En} (h : InvA wk ws we P a) (hw : wok wk ws we) (hP : ∀ r ∈ P, okP r) (hp : okP p) : InvA wk ws we (P ++ [p]) (rawput wk ws we a p) := by
  unfold InvA rawput at *
  by_cases hk : wk = 3
  · rw [if_pos hk] at h ⊢
    rw [if_pos hk]
    exact invS_step h hw.1.1 hp.2
  · rw [if_neg hk] at h ⊢
    rw [if_neg hk]
    exact inv_fold h hw hk hP hp
theorem inv_w {wk ws we : Int} {P : List Pt} {a : List En} (h : InvA wk ws we P a) (hw : wok wk ws we) (hP : ∀ r ∈ P, okP r) : ∀ y ∈ a, enw y := by
  have h0 := h
  unfold InvA at h
  by_cases hk : wk = 3
  · rw [if_pos hk] at h
    exact h.w hw.1.1
  · rw [if_neg hk] at h
    intro y hy
    obtain ⟨⟨r, hr, _, h1⟩, h2⟩ := (h.2 y).1 hy
    have := (mem_wspans hw hk (hP r hr).1.1 (hP r hr).1.2 _).1 h1
    have hw1 := hw.1
    exact ⟨by simp only at this; omega, h2.wk⟩
theorem put_tot {sess : Bool} {l : List En} {x : En} (hs : SS l) (hx : enw x) (hl : ∀ y ∈ l, enw y) (ht : tot1 l + x.c1 ≤ 1073741824 ∧ tot2 l + x.c2 ≤ 1073741824) :
    (putE sess l x).2 = true ∧ tot1 (putE sess l x).1 = tot1 l + x.c1 ∧ tot2 (putE sess l x).1 = tot2 l + x.c2 ∧ (putE sess l x).1.length ≤ l.length + 1 := by
  have hp := (putE_ss (sess := sess) (x := x) hs).2
  have ht2 := tot_perm hp
  have hw := withE_tot (sess := sess) hx hl
  have hle := meets_le hx hl (absorb_meets (hitE sess) l.length l x)
  refine ⟨?_, by rw [ht2.1, hw.1], by rw [ht2.2, hw.2.1], by rw [hp.length_eq]; exact hw.2.2⟩
  show fitE _ = true
  unfold fitE
  simp only [decide_eq_true_eq]
  omega
theorem recE_one (k v d s e : Int) : (recE k v d s e).c1 + (recE k v d s e).c2 = 1 := by unfold recE; split <;> simp [mkEn, accV, acc0]
theorem fold_tot {p : Pt} : ∀ (ss : List (Int × Int)) (l : List En), SS l → (∀ y ∈ l, enw y) → (∀ q ∈ ss, q.1 < q.2) → tot1 l + ss.length ≤ 1073741824 → tot2 l + ss.length ≤ 1073741824 →
    (foldW (putE false) (recP p) ss l).2 = true ∧ tot1 (foldW (putE false) (recP p) ss l).1 + tot2 (foldW (putE false) (recP p) ss l).1 = tot1 l + tot2 l + ss.length ∧ (foldW (putE false) (recP p) ss l).1.length ≤ l.length + ss.length
  | [], l, _, _, _, _, _ => ⟨rfl, by simp [foldW], by simp [foldW]⟩
  | q :: ss, l, hs, hl, hq, h1, h2 => by
    have hqq := hq q (by simp)
    have hx : enw (recP p q) := recP_w hqq
    have hc := recE_c p.k p.v p.d q.1 q.2
    have hone := recE_one p.k p.v p.d q.1 q.2
    change (0 ≤ (recP p q).c1 ∧ (recP p q).c1 ≤ 1 ∧ 0 ≤ (recP p q).c2 ∧ (recP p q).c2 ≤ 1) at hc
    change (recP p q).c1 + (recP p q).c2 = 1 at hone
    simp only [List.length_cons, Int.natCast_add, Int.natCast_one] at h1 h2
    obtain ⟨p1, p2, p3, p4⟩ := put_tot (sess := false) hs hx hl (by omega)
    have hl' : ∀ y ∈ (putE false l (recP p q)).1, enw y := fun y hy => withE_w hx hl y ((putE_ss hs).2.mem_iff.1 hy)
    obtain ⟨i1, i2, i3⟩ := fold_tot ss (putE false l (recP p q)).1 (putE_ss hs).1 hl' (fun r hr => hq r (by simp [hr])) (by omega) (by omega)
    have e : foldW (putE false) (recP p) (q :: ss) l = foldW (putE false) (recP p) ss (putE false l (recP p q)).1 := by
      unfold foldW
      rw [List.foldl_cons]
      simp only [Bool.true_and, p1]
    rw [e]
    exact ⟨i1, by rw [i2, p2, p3]; simp only [List.length_cons, Int.natCast_add, Int.natCast_one]; omega, by simp only [List.length_cons]; omega⟩
theorem add_put {wk ws we : Int} {a : List En} {p : Pt} (h : enchk a = 0) (hw : wok wk ws we) (hp : okP p) (h1 : tot1 a ≤ 1000000) (h2 : tot2 a ≤ 1000000) (h3 : a.length + 16 ≤ 4000) :
    addE a wk ws we p.k p.t p.v p.d = (rawput wk ws we a p, 0) ∧ tot1 (rawput wk ws we a p) + tot2 (rawput wk ws we a p) = tot1 a + tot2 a + nW wk ws we p ∧ (rawput wk ws we a p).length ≤ a.length + nW wk ws we p := by
  obtain ⟨c1, c2, c3⟩ := enchk_zero.1 h
  have hR : ∀ y ∈ a, enw y := fun y hy => enR_w (enok_parts.1 (c2 y hy)).1
  obtain ⟨⟨t1, t2⟩, hd⟩ := hp
  have hw1 := hw.1
  unfold addE
  rw [if_neg (by simp [h]), if_neg (by simp [hw]), if_neg (by omega), if_neg (by omega), givE_put c3 hR (fun q hq => enR_w (recE_R hq)) (fun _ => (wspans_ok hw t1 t2).1)]
  unfold rawput nW
  by_cases hk : wk = 3
  · rw [if_pos hk, if_pos hk, if_pos hk]
    have hx : enw (recP p (p.t, p.t + ws)) := recP_w (by simp; omega)
    have hc := recE_c p.k p.v p.d p.t (p.t + ws)
    have hone := recE_one p.k p.v p.d p.t (p.t + ws)
    change (0 ≤ (recP p (p.t, p.t + ws)).c1 ∧ (recP p (p.t, p.t + ws)).c1 ≤ 1 ∧ 0 ≤ (recP p (p.t, p.t + ws)).c2 ∧ (recP p (p.t, p.t + ws)).c2 ≤ 1) at hc
    change (recP p (p.t, p.t + ws)).c1 + (recP p (p.t, p.t + ws)).c2 = 1 at hone
    obtain ⟨p1, p2, p3, p4⟩ := put_tot (sess := true) c3 hx hR (by omega)
    have e : recE p.k p.v p.d p.t (p.t + ws) = recP p (p.t, p.t + ws) := rfl
    rw [e]
    simp only
    rw [if_pos (by simp only [p1, Bool.true_and, decide_eq_true_eq]; omega)]
    exact ⟨rfl, by rw [p2, p3]; simp only [Int.natCast_one]; omega, p4⟩
  · rw [if_neg hk, if_neg hk, if_neg hk]
    have h16 := wspans_16 (t := p.t) hw hk
    obtain ⟨p1, p2, p3⟩ := fold_tot (p := p) (wspans wk ws we p.t) a c3 hR (wspans_ok hw t1 t2).1 (by omega) (by omega)
    have e : (fun q : Int × Int => recE p.k p.v p.d q.1 q.2) = recP p := rfl
    rw [e]
    simp only
    rw [if_pos (by simp only [p1, Bool.true_and, decide_eq_true_eq]; omega)]
    exact ⟨rfl, p2, p3⟩
theorem nW_16 {wk ws we : Int} (hw : wok wk ws we) (p : Pt) : nW wk ws we p ≤ 16 := by
  unfold nW
  split
  · omega
  · rename_i hk; exact wspans_16 hw hk
theorem sumW_snoc (wk ws we : Int) (P : List Pt) (p : Pt) : sumW wk ws we (P ++ [p]) = sumW wk ws we P + nW wk ws we p := by simp [sumW]
theorem sumW_16 {wk ws we : Int} (hw : wok wk ws we) : ∀ (P : List Pt), sumW wk ws we P ≤ 16 * P.length
  | [] => by simp [sumW]
  | p :: P => by
    have := sumW_16 hw P
    have := nW_16 hw p
    unfold sumW at *
    simp only [List.map_cons, List.sum_cons, List.length_cons]
    omega
/-- All records put in. -/
theorem all_inv {wk ws we : Int} (hw : wok wk ws we) : ∀ (n : Nat) (P : List Pt), P.length = n → n ≤ 240 → (∀ p ∈ P, okP p) →
    ∃ a, allE wk ws we [] P = some a ∧ InvA wk ws we P a ∧ enchk a = 0 ∧ tot1 a + tot2 a = sumW wk ws we P ∧ a.length ≤ sumW wk ws we P
  | 0, P, hn, _, _ => by
    obtain rfl := List.eq_nil_of_length_eq_zero hn
    exact ⟨[], rfl, inv_nil _ _ _, enchk_zero.2 ⟨by simp, by simp, List.Pairwise.nil⟩, by simp [tot1, tot2, sumW], by simp⟩
  | n + 1, P, hn, h240, hok => by
    rcases List.eq_nil_or_concat P with rfl | ⟨Q, p, rfl⟩
    · simp at hn
    · rw [List.concat_eq_append] at hn hok ⊢
      have hQ : Q.length = n := by simpa using hn
      have hokQ : ∀ r ∈ Q, okP r := fun r hr => hok r (by simp [hr])
      have hokp : okP p := hok p (by simp)
      obtain ⟨a, a1, a2, a3, a4, a5⟩ := all_inv hw n Q hQ (by omega) hokQ
      have h16 := sumW_16 hw Q
      have hnn := tot_nonneg (inv_w a2 hw hokQ)
      obtain ⟨b1, b2, b3⟩ := add_put a3 hw hokp (by omega) (by omega) (by omega)
      refine ⟨rawput wk ws we a p, ?_, inv_step a2 hw hokQ hokp, (add_facts a3 b1).1, by rw [b2, a4, sumW_snoc]; simp, by rw [sumW_snoc]; omega⟩
      rw [allE_append, a1]
      show allE wk ws we a [p] = _
      have e : allE wk ws we a [p] = if (addE a wk ws we p.k p.t p.v p.d).2 = 0 then allE wk ws we (addE a wk ws we p.k p.t p.v p.d).1 [] else none := rfl
      rw [e, b1, if_pos rfl]
      rfl
/-! ### what the statements ask of it -/
theorem inv_wins {wk ws we : Int} {P : List Pt} {a : List En} (h : InvA wk ws we P a) (hw : wok wk ws we) (hP : ∀ r ∈ P, okP r) {r : Pt} (hr : r ∈ P) :
    (a.filter (fun x => inE x r)).map (fun x => (x.s, x.e)) = if wk = 3 then (canon (stimes ws (timesK P r.k))).filter (holdS r.t) else wspans wk ws we r.t := by
  by_cases hk : wk = 3
  · rw [if_pos hk]
    have h' : InvS ws P a := by unfold InvA at h; rwa [if_pos hk] at h
    rw [← h'.2.1]
    unfold spansK
    rw [List.filter_map, List.filter_filter]
    congr 1
    refine List.filter_congr (fun x _ => ?_)
    unfold inE holdS
    rw [Bool.eq_iff_iff]
    simp only [Function.comp, Bool.and_eq_true, decide_eq_true_eq, beq_iff_eq]
    constructor
    · rintro ⟨h1, h2, h3⟩; exact ⟨⟨h2, h3⟩, h1.symm⟩
    · rintro ⟨⟨h2, h3⟩, h1⟩; exact ⟨h1.symm, h2, h3⟩
  · rw [if_neg hk]
    have h' : InvN wk ws we P a := by unfold InvA at h; rwa [if_neg hk] at h
    obtain ⟨⟨t1, t2⟩, hd⟩ := hP r hr
    have hmem : ∀ x ∈ a, x.e = x.s + ws ∧ x.s % evW wk ws we = 0 := fun x hx => by
      obtain ⟨⟨q, hq, _, h1⟩, _⟩ := (h'.2 x).1 hx
      have := (mem_wspans hw hk (hP q hq).1.1 (hP q hq).1.2 _).1 h1
      exact ⟨this.1, this.2.1⟩
    have hkey : ∀ x ∈ a.filter (fun x => inE x r), x ∈ a ∧ x.k = r.k ∧ x.s ≤ r.t ∧ r.t < x.e := fun x hx => by
      obtain ⟨h1, h2⟩ := List.mem_filter.1 hx
      unfold inE at h2
      simp only [decide_eq_true_eq] at h2
      exact ⟨h1, h2.1.symm, h2.2.1, h2.2.2⟩
    have hlt : ∀ (l m : List (Int × Int)), l.Pairwise (fun p q => p.1 < q.1) → m.Pairwise (fun p q => p.1 < q.1) → (∀ p, p ∈ l ↔ p ∈ m) → l = m := by
      intro l m hl hm hlm
      have nd : ∀ {l : List (Int × Int)}, l.Pairwise (fun p q => p.1 < q.1) → l.Nodup := fun h => h.imp (fun {p q} hpq e => by subst e; omega)
      have hp := (List.perm_ext_iff_of_nodup (nd hl) (nd hm)).2 hlm
      exact List.Perm.eq_of_pairwise (le := fun p q => p.1 < q.1) (fun p q _ _ h1 h2 => by omega) hl hm hp
    refine hlt _ _ ?_ (wspans_nodup hw hk) (fun p => ?_)
    · rw [List.pairwise_map]
      have hss : SS (a.filter (fun x => inE x r)) := ss_sub h'.1 List.filter_sublist
      refine List.Pairwise.imp_of_mem (fun {x y} hx hy hxy => ?_) hss
      obtain ⟨x1, x2, _⟩ := hkey x hx
      obtain ⟨y1, y2, _⟩ := hkey y hy
      have := hmem x x1
      have := hmem y y1
      rw [enlt_iff] at hxy
      simp only
      omega
    · rw [mem_wspans hw hk t1 t2, List.mem_map]
      constructor
      · rintro ⟨x, hx, rfl⟩
        obtain ⟨x1, x2, x3, x4⟩ := hkey x hx
        have := hmem x x1
        simp only
        omega
      · rintro ⟨p1, p2, p3, p4⟩
        refine ⟨entP P r.k p.1 p.2, List.mem_filter.2 ⟨(h'.2 _).2 ⟨⟨r, hr, rfl, (mem_wspans hw hk t1 t2 _).2 ⟨p1, p2, p3, p4⟩⟩, entP_rig P r.k p.1 p.2⟩, ?_⟩, rfl⟩
        unfold inE
        simp only [decide_eq_true_eq]
        exact ⟨rfl, p3, by show r.t < p.2; omega⟩
end Go.Proofs.Ytbbdepeifdbbdaa
