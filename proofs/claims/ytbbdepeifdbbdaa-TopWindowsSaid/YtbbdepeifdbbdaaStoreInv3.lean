/- What a store of sessions holds of the records that were put in (chapter 17); all records put in, whatever their order. Plain. No condition. -/
import Derived.Test.YtbbdepeifdbbdaaStoreKeysP
import Derived.Test.YtbbdepeifdbbdaaSessPlain2
import Derived.Test.YtbbdepeifdbbdaaStoreLaw
namespace Go.Proofs.Ytbbdepeifdbbdaa
open Go.RowKit

def timesK (P : List Pt) (k : Int) : List Int := (P.filter (fun p => p.k == k)).map Pt.t
def spansK (a : List En) (k : Int) : List (Int × Int) := (a.filter (fun x => x.k == k)).map fun x => (x.s, x.e)
/-- A store of sessions holds, of each key, the sessions of its times, with what falls in each. -/
def InvS (g : Int) (P : List Pt) (a : List En) : Prop := SS a ∧ (∀ k, spansK a k = canon (stimes g (timesK P k))) ∧ ∀ x ∈ a, Rig P x
theorem cov_spansK {a : List En} {k z : Int} : Cov (spansK a k) z ↔ ∃ y ∈ a, y.k = k ∧ 2 * y.s < z ∧ z < 2 * y.e := by
  unfold Cov spansK
  constructor
  · rintro ⟨s, hs, h⟩
    obtain ⟨y, hy, rfl⟩ := List.mem_map.1 hs
    obtain ⟨h1, h2⟩ := List.mem_filter.1 hy
    exact ⟨y, h1, by simpa using h2, h⟩
  · rintro ⟨y, hy, hk, h⟩
    exact ⟨(y.s, y.e), List.mem_map.2 ⟨y, List.mem_filter.2 ⟨hy, by simpa using hk⟩, rfl⟩, h⟩
theorem timesK_snoc (P : List Pt) (p : Pt) (k : Int) : timesK (P ++ [p]) k = timesK P k ++ if p.k = k then [p.t] else [] := by
  unfold timesK
  rw [List.filter_append, List.map_append]
  by_cases h : p.k = k <;> simp [h]
theorem mem_timesK {P : List Pt} {k t : Int} : t ∈ timesK P k ↔ ∃ p ∈ P, p.k = k ∧ p.t = t := by
  unfold timesK
  rw [List.mem_map]
  constructor
  · rintro ⟨p, hp, rfl⟩; obtain ⟨h1, h2⟩ := List.mem_filter.1 hp; exact ⟨p, h1, by simpa using h2, rfl⟩
  · rintro ⟨p, hp, hk, rfl⟩; exact ⟨p, List.mem_filter.2 ⟨hp, by simpa using hk⟩, rfl⟩
/-- Entries in order that do not overlap: their spans follow each other. -/
theorem good_of_ss : ∀ {b : List En}, SS b → (∀ x ∈ b, x.s < x.e) → (∀ x ∈ b, ∀ y ∈ b, x = y ∨ x.e ≤ y.s ∨ y.e ≤ x.s) → Good (b.map fun x => (x.s, x.e))
  | [], _, _, _ => trivial
  | x :: b, hs, hw, hd => by
    have hg := good_of_ss (b := b) (List.Pairwise.of_cons hs) (fun y hy => hw y (by simp [hy])) (fun y hy z hz => hd y (by simp [hy]) z (by simp [hz]))
    refine ⟨hw x (by simp), fun s hs' => ?_, hg⟩
    obtain ⟨y, hy, rfl⟩ := List.mem_map.1 hs'
    have h1 := List.rel_of_pairwise_cons hs hy
    have h2 := hd x (by simp) y (by simp [hy])
    have h3 := hw x (by simp)
    have h4 := hw y (by simp [hy])
    rw [enlt_iff] at h1
    rcases h2 with rfl | h2 | h2
    · omega
    · exact h2
    · omega
theorem meets_cov {l l1 : List En} {x x1 : En} (hm : Meets (hitE true) l x l1 x1) (hx : x.s < x.e) (hl : ∀ y ∈ l, y.s < y.e) : ∀ z, 2 * x1.s < z → z < 2 * x1.e → (2 * x.s < z ∧ z < 2 * x.e) ∨ ∃ y ∈ l, y.k = x.k ∧ 2 * y.s < z ∧ z < 2 * y.e := by
  induction hm with
  | done l x => intro z h1 h2; exact .inl ⟨h1, h2⟩
  | @step p q x y l' x' hh _ ih =>
    intro z h1 h2
    have hy := hl y (by simp)
    rw [hitE_sess hx hy] at hh
    simp only [decide_eq_true_eq] at hh
    have e1 : (enJ x y).s = min x.s y.s := rfl
    have e2 : (enJ x y).e = max x.e y.e := rfl
    have e3 : (enJ x y).k = x.k := rfl
    have hsub : ∀ w ∈ p ++ q, w ∈ p ++ y :: q := fun w hw => by
      rcases List.mem_append.1 hw with h | h
      · exact List.mem_append_left _ h
      · exact List.mem_append_right _ (List.mem_cons_of_mem _ h)
    rcases ih (by omega) (fun w hw => hl w (hsub w hw)) z h1 h2 with h | ⟨w, hw, hk, h⟩
    · by_cases hxz : 2 * x.s < z ∧ z < 2 * x.e
      · exact .inl hxz
      · exact .inr ⟨y, by simp, hh.1, by omega⟩
    · exact .inr ⟨w, hsub w hw, hk.trans e3, h⟩
/-- What is taken in, one by one, of records that lie apart. -/
theorem fold_acc {P : List Pt} : ∀ (ys : List En) (x : En), enw x → (∀ y ∈ ys, Rig P y) → (∀ y ∈ ys, enw y) → ys.Pairwise (fun y y' => ∀ r ∈ P, inE y r = true → inE y' r = false) →
    (ys.foldl enJ x).a = aboth x.a (accP (fun r => ys.any fun y => sideE 0 y r) P) ∧ (ys.foldl enJ x).b = aboth x.b (accP (fun r => ys.any fun y => sideE 1 y r) P)
  | [], x, hx, _, _, _ => by
    have e : ∀ d, accP (fun r => ([] : List En).any fun y => sideE d y r) P = acc0 := fun d => accP_none (fun _ _ => rfl)
    rw [e, e, aboth_0r hx.2.1, aboth_0r hx.2.2]
    exact ⟨rfl, rfl⟩
  | y :: ys, x, hx, hr, hw, hp => by
    have hy := hr y (by simp)
    have hyw := hw y (by simp)
    obtain ⟨i1, i2⟩ := fold_acc ys (enJ x y) (enw_J hx hyw) (fun z hz => hr z (by simp [hz])) (fun z hz => hw z (by simp [hz])) (List.Pairwise.of_cons hp)
    have hor : ∀ d, accP (fun r => (y :: ys).any fun y => sideE d y r) P = aboth (accP (sideE d y) P) (accP (fun r => ys.any fun y => sideE d y r) P) := fun d => by
      rw [← accP_or (q := sideE d y) (r := fun r => ys.any fun y => sideE d y r)]
      · rfl
      · intro r hrP h1
        unfold sideE at h1
        simp only [Bool.and_eq_true] at h1
        rw [List.any_eq_false]
        intro z hz hc
        have := List.rel_of_pairwise_cons hp hz r hrP h1.1
        unfold sideE at hc
        rw [this] at hc
        simp at hc
    have w0 : ∀ d, (accP (fun r => ys.any fun y => sideE d y r) P).wk := fun d => accP_wk _ _
    simp only [List.foldl_cons]
    rw [i1, i2, hor, hor, enJ_a, enJ_b, both_assoc hx.2.1 hyw.2.1 (w0 0), both_assoc hx.2.2 hyw.2.2 (w0 1), hy.1, hy.2]
    exact ⟨rfl, rfl⟩
theorem InvS.lt {g : Int} {P : List Pt} {a : List En} (h : InvS g P a) (hg : 1 ≤ g) : ∀ y ∈ a, y.s < y.e := fun y hy => by
  have hG : Good (spansK a y.k) := by rw [h.2.1]; exact (canon_good (stimes_ok hg)).1
  exact good_mem hG (y.s, y.e) (List.mem_map.2 ⟨y, List.mem_filter.2 ⟨hy, by simp⟩, rfl⟩)
theorem InvS.w {g : Int} {P : List Pt} {a : List En} (h : InvS g P a) (hg : 1 ≤ g) : ∀ y ∈ a, enw y := fun y hy => ⟨h.lt hg y hy, (h.2.2 y hy).wk⟩
theorem InvS.apart {g : Int} {P : List Pt} {a : List En} (h : InvS g P a) (hg : 1 ≤ g) : ∀ x ∈ a, ∀ y ∈ a, x.k = y.k → x = y ∨ x.e ≤ y.s ∨ y.e ≤ x.s := fun x hx y hy hk => by
  have hG : Good (spansK a y.k) := by rw [h.2.1]; exact (canon_good (stimes_ok hg)).1
  rcases good_two hG (x.s, x.e) (List.mem_map.2 ⟨x, List.mem_filter.2 ⟨hx, by simp [hk]⟩, rfl⟩) (y.s, y.e) (List.mem_map.2 ⟨y, List.mem_filter.2 ⟨hy, by simp⟩, rfl⟩) with h1 | h1
  · left
    simp only [Prod.mk.injEq] at h1
    exact ss_one h.1 hx hy ⟨hk, h1.1, h1.2⟩
  · exact .inr h1
theorem InvS.holds {g : Int} {P : List Pt} {a : List En} (h : InvS g P a) (hg : 1 ≤ g) {r : Pt} (hr : r ∈ P) : ∃ y ∈ a, inE y r = true := by
  have hc : Cov (stimes g (timesK P r.k)) (2 * r.t + 1) := cov_times.2 ⟨r.t, mem_timesK.2 ⟨r, hr, rfl, rfl⟩, by omega, by omega⟩
  rw [← (canon_good (stimes_ok hg)).2, ← h.2.1] at hc
  obtain ⟨y, hy, hk, h1, h2⟩ := cov_spansK.1 hc
  refine ⟨y, hy, ?_⟩
  unfold inE
  simp only [decide_eq_true_eq]
  omega
theorem invS_step {g : Int} {P : List Pt} {p : Pt} {a : List En} (h : InvS g P a) (hg : 1 ≤ g) (hp : p.d = 0 ∨ p.d = 1) : InvS g (P ++ [p]) (putE true a (recP p (p.t, p.t + g))).1 := by
  have hw := h.w hg
  have hlt := h.lt hg
  obtain ⟨r1, r2, r3, r4, r5⟩ := recP_f p (p.t, p.t + g)
  have hx : enw (recP p (p.t, p.t + g)) := recP_w (by simp; omega)
  have hm := absorb_meets (hitE true) a.length a (recP p (p.t, p.t + g))
  have he := absorb_ended (hitE true) a.length a (recP p (p.t, p.t + g)) (Nat.le_refl _)
  obtain ⟨h1, ⟨ys, h2, h3⟩, h4, h5, h6, h7, _, h9⟩ := hm.ended hx hw he
  have hcov := meets_cov hm hx.1 hlt
  have hput : ∀ z, z ∈ (putE true a (recP p (p.t, p.t + g))).1 ↔ z = (absorb (hitE true) a.length a (recP p (p.t, p.t + g))).2 ∨ z ∈ (absorb (hitE true) a.length a (recP p (p.t, p.t + g))).1 := fun z => put_mem
  have hoth := put_other (sess := true) h.1 hx hw
  have hss : SS (putE true a (recP p (p.t, p.t + g))).1 := (putE_ss h.1).1
  obtain ⟨x', hx'⟩ : ∃ x', x' = (absorb (hitE true) a.length a (recP p (p.t, p.t + g))).2 := ⟨_, rfl⟩
  obtain ⟨b, hb⟩ : ∃ b, b = (putE true a (recP p (p.t, p.t + g))).1 := ⟨_, rfl⟩
  rw [h1, ← hx'] at hput
  rw [← hx'] at h2 h3 h4 h5 h6 h7 h9 hcov
  rw [← hb] at hput hoth hss ⊢
  rw [r2] at h6
  rw [r3] at h7
  rw [r1] at h5 hoth
  simp only at h6 h7
  clear hm he h1 hx' hb
  have hhit : ∀ y ∈ a, hitE true x' y = true ↔ (y.k = p.k ∧ y.s < x'.e ∧ x'.s < y.e) := fun y hy => by
    rw [hitE_sess h4.1 (hlt y hy), decide_eq_true_iff, h5]
  have hmem : ∀ z, z ∈ b ↔ z = x' ∨ (z ∈ a ∧ ¬ (z.k = p.k ∧ z.s < x'.e ∧ x'.s < z.e)) := fun z => by
    rw [hput, List.mem_filter]
    constructor
    · rintro (h | ⟨h, hn⟩)
      · exact .inl h
      · refine .inr ⟨h, fun hc => ?_⟩
        rw [(hhit z h).2 hc] at hn
        cases hn
    · rintro (h | ⟨h, hn⟩)
      · exact .inl h
      · refine .inr ⟨h, ?_⟩
        cases hq : hitE true x' z with
        | false => rfl
        | true => exact absurd ((hhit z h).1 hq) hn
  refine ⟨hss, fun k => ?_, fun z hz => ?_⟩
  · by_cases hk : k = p.k
    · subst hk
      have hG : Good (spansK b p.k) := by
        refine good_of_ss (ss_sub hss List.filter_sublist) (fun y hy => ?_) (fun y hy z hz => ?_)
        · rcases (hmem y).1 (List.mem_filter.1 hy).1 with rfl | ⟨h', _⟩
          · exact h4.1
          · exact hlt y h'
        · obtain ⟨hy1, hy2⟩ := List.mem_filter.1 hy
          obtain ⟨hz1, hz2⟩ := List.mem_filter.1 hz
          have hy2 : y.k = p.k := by simpa using hy2
          have hz2 : z.k = p.k := by simpa using hz2
          rcases (hmem y).1 hy1 with rfl | ⟨ya, yn⟩ <;> rcases (hmem z).1 hz1 with rfl | ⟨za, zn⟩
          · exact .inl rfl
          · right; omega
          · right; omega
          · exact h.apart hg y ya z za (by omega)
      refine good_unique hG (canon_good (stimes_ok hg)).1 (fun z => ?_)
      rw [(canon_good (stimes_ok hg)).2, timesK_snoc, if_pos rfl]
      have e1 : stimes g (timesK P p.k ++ [p.t]) = stimes g (timesK P p.k) ++ [(p.t, p.t + g)] := by simp [stimes]
      rw [e1, cov_append, ← (canon_good (stimes_ok hg)).2, ← h.2.1, cov_spansK, cov_spansK]
      have e2 : Cov [(p.t, p.t + g)] z ↔ 2 * p.t < z ∧ z < 2 * (p.t + g) := by
        unfold Cov
        simp
      rw [e2]
      constructor
      · rintro ⟨y, hy, hk, hz⟩
        rcases (hmem y).1 hy with rfl | ⟨hya, _⟩
        · rcases hcov z hz.1 hz.2 with hc | ⟨w, hw1, hw2, hw3⟩
          · rw [r2, r3] at hc
            exact .inr hc
          · exact .inl ⟨w, hw1, hw2.trans r1, hw3⟩
        · exact .inl ⟨y, hya, hk, hz⟩
      · rintro (⟨y, hy, hk, hz⟩ | hz)
        · by_cases hq : y.k = p.k ∧ y.s < x'.e ∧ x'.s < y.e
          · have := h9 y hy ((hhit y hy).2 hq)
            exact ⟨x', (hmem _).2 (.inl rfl), h5, by omega, by omega⟩
          · exact ⟨y, (hmem _).2 (.inr ⟨hy, hq⟩), hk, hz⟩
        · exact ⟨x', (hmem _).2 (.inl rfl), h5, by omega, by omega⟩
    · have e1 : ∀ c : List En, c.filter (fun x => x.k == k) = (c.filter (fun y => y.k != p.k)).filter (fun x => x.k == k) := fun c => by
        rw [List.filter_filter]
        refine List.filter_congr (fun y _ => ?_)
        by_cases hy : y.k = k
        · simp [hy, hk]
        · simp [hy]
      have e2 : spansK b k = spansK a k := by unfold spansK; rw [e1 b, e1 a, hoth]
      rw [e2, h.2.1, timesK_snoc, if_neg (fun e => hk e.symm), List.append_nil]
  · rcases (hmem z).1 hz with rfl | ⟨hza, hzn⟩
    · have hysf : ∀ y ∈ ys, y ∈ a ∧ y.k = p.k ∧ z.s ≤ y.s ∧ y.e ≤ z.e := fun y hy => by
        obtain ⟨ya, yh⟩ := List.mem_filter.1 (h2.mem_iff.1 hy)
        have := h9 y ya yh
        exact ⟨ya, ((hhit y ya).1 yh).1, this⟩
      have hpw : ys.Pairwise (fun y y' => ∀ r ∈ P, inE y r = true → inE y' r = false) := by
        have hq : (a.filter (hitE true z)).Pairwise (fun y y' => ∀ r ∈ P, (inE y r = true → inE y' r = false) ∧ (inE y' r = true → inE y r = false)) := by
          have hne : (a.filter (hitE true z)).Pairwise (· ≠ ·) := ss_nodup (ss_sub h.1 List.filter_sublist)
          refine List.Pairwise.imp_of_mem (fun {y y'} hy hy' hne r _ => ?_) hne
          obtain ⟨ya, yh⟩ := List.mem_filter.1 hy
          obtain ⟨ya', yh'⟩ := List.mem_filter.1 hy'
          have k1 := ((hhit y ya).1 yh).1
          have k2 := ((hhit y' ya').1 yh').1
          have hd := h.apart hg y ya y' ya' (k1.trans k2.symm)
          unfold inE
          rcases hd with hd | hd
          · exact absurd hd hne
          · constructor
            · intro h'; simp only [decide_eq_true_eq] at h'; rw [decide_eq_false_iff_not]; omega
            · intro h'; simp only [decide_eq_true_eq] at h'; rw [decide_eq_false_iff_not]; omega
        have := (h2.symm.pairwise_iff (fun {y y'} hh r hr => ⟨(hh r hr).2, (hh r hr).1⟩)).1 hq
        exact this.imp (fun {y y'} hh r hr => (hh r hr).1)
      obtain ⟨f1, f2⟩ := fold_acc ys (recP p (p.t, p.t + g)) hx (fun y hy => h.2.2 y (hysf y hy).1) (fun y hy => hw y (hysf y hy).1) hpw
      rw [← h3] at f1 f2
      have hcg : ∀ d, accP (fun r => ys.any fun y => sideE d y r) P = accP (sideE d z) P := fun d => accP_congr (fun r hr => by
        rw [Bool.eq_iff_iff, List.any_eq_true]
        constructor
        · rintro ⟨y, hy, hh⟩
          obtain ⟨ya, yk, y1, y2⟩ := hysf y hy
          unfold sideE inE at hh ⊢
          simp only [Bool.and_eq_true, decide_eq_true_eq] at hh ⊢
          omega
        · intro hh
          obtain ⟨y, hy, hin⟩ := h.holds hg hr
          have hin0 := hin
          unfold inE at hin
          unfold sideE inE at hh
          simp only [Bool.and_eq_true, decide_eq_true_eq] at hh hin
          have yh : hitE true z y = true := (hhit y hy).2 ⟨by omega, by omega, by omega⟩
          refine ⟨y, h2.mem_iff.2 (List.mem_filter.2 ⟨hy, yh⟩), ?_⟩
          unfold sideE
          rw [hin0]
          simp [hh.2])
      rw [hcg, r4] at f1
      rw [hcg, r5] at f2
      have hin : inE z p = true := by unfold inE; simp only [decide_eq_true_eq]; omega
      unfold Rig
      rw [accP_snoc, accP_snoc, f1, f2]
      rcases hp with h0 | h0
      · have s0 : sideE 0 z p = true := by simp [sideE, hin, h0]
        have s1 : sideE 1 z p = false := by simp [sideE, h0]
        rw [s0, s1, if_pos h0, if_pos h0]
        exact ⟨by rw [if_pos rfl, both_comm (accV_wk _) (accP_wk _ _)], by rw [if_neg (by simp), aboth_0l]⟩
      · have s0 : sideE 0 z p = false := by simp [sideE, h0]
        have s1 : sideE 1 z p = true := by simp [sideE, hin, h0]
        have hn0 : ¬ p.d = 0 := by omega
        simp only [s0, s1, if_neg hn0]
        exact ⟨by rw [if_neg (by simp), aboth_0l], by rw [if_pos (by simp), both_comm (accV_wk _) (accP_wk _ _)]⟩
    · refine (Rig.far ?_).2 (h.2.2 z hza)
      unfold inE
      rw [decide_eq_false_iff_not]
      rintro ⟨e1, e2, e3⟩
      exact hzn ⟨e1.symm, by omega, by omega⟩
end Go.Proofs.Ytbbdepeifdbbdaa
