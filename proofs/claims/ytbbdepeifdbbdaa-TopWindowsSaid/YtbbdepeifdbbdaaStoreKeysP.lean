/- What a record that is added leaves of a valid store (chapter 17): entries of other keys as they were, an entry of its own, a valid store. Plain. No condition. -/
import Derived.Test.YtbbdepeifdbbdaaStoreInv2
namespace Go.Proofs.Ytbbdepeifdbbdaa
open Go.RowKit

theorem ss_nodup {l : List En} (h : SS l) : l.Nodup := List.Pairwise.imp (fun {a b} hab e => by subst e; rw [enlt_irr] at hab; cases hab) h
theorem ss_ext {a b : List En} (ha : SS a) (hb : SS b) (h : ∀ x, x ∈ a ↔ x ∈ b) : a = b :=
  SS.unique ((List.perm_ext_iff_of_nodup (ss_nodup ha) (ss_nodup hb)).2 h) ha hb
/-- What is put in changes its own key alone. -/
theorem put_other {sess : Bool} {l : List En} {x : En} (hs : SS l) (hx : enw x) (hl : ∀ y ∈ l, enw y) : (putE sess l x).1.filter (fun y => y.k != x.k) = l.filter (fun y => y.k != x.k) := by
  have hm := absorb_meets (hitE sess) l.length l x
  have he := absorb_ended (hitE sess) l.length l x (Nat.le_refl _)
  obtain ⟨h1, _, _, h5, _⟩ := hm.ended hx hl he
  refine ss_ext (ss_sub (putE_ss hs).1 List.filter_sublist) (ss_sub hs List.filter_sublist) (fun z => ?_)
  rw [List.mem_filter, List.mem_filter, put_mem, h1, List.mem_filter]
  have hk : ∀ y, hitE sess (absorb (hitE sess) l.length l x).2 y = true → y.k = x.k := fun y hy => by
    unfold hitE at hy
    simp only [Bool.and_eq_true, decide_eq_true_eq] at hy
    exact hy.1.trans h5
  constructor
  · rintro ⟨h | h, h2⟩
    · rw [h, h5] at h2; simp at h2
    · exact ⟨h.1, h2⟩
  · rintro ⟨h, h2⟩
    refine ⟨.inr ⟨h, ?_⟩, h2⟩
    cases hq : hitE sess (absorb (hitE sess) l.length l x).2 z with
    | false => rfl
    | true => have := hk z hq; simp [this] at h2
/-- An entry that covers what is put in. -/
theorem put_has {sess : Bool} {l : List En} {x : En} (hx : enw x) (hl : ∀ y ∈ l, enw y) : ∃ z ∈ (putE sess l x).1, z.k = x.k ∧ z.s ≤ x.s ∧ x.e ≤ z.e := by
  have hm := absorb_meets (hitE sess) l.length l x
  have he := absorb_ended (hitE sess) l.length l x (Nat.le_refl _)
  obtain ⟨_, _, _, h5, h6, h7, _⟩ := hm.ended hx hl he
  exact ⟨_, put_mem.2 (.inl rfl), h5, h6, h7⟩
def farE (x : En) : Prop := -1100585369600 ≤ x.s ∧ x.e ≤ 1100585369600 ∧ 0 < x.c1 + x.c2
theorem foldJ_far {x : En} (hx : enw x) (hf : farE x) : ∀ {ys : List En}, (∀ y ∈ ys, enw y ∧ farE y) → farE (ys.foldl enJ x) := by
  intro ys
  induction ys generalizing x with
  | nil => intro _; exact hf
  | cons y ys ih =>
    intro h
    obtain ⟨hy, hyf⟩ := h y (by simp)
    have e1 : (enJ x y).s = min x.s y.s := rfl
    have e2 : (enJ x y).e = max x.e y.e := rfl
    have e3 : (enJ x y).c1 = (aboth x.a y.a).c := rfl
    have e4 : (enJ x y).c2 = (aboth x.b y.b).c := rfl
    have hc1 := enw_c hx
    have hc2 := enw_c hy
    rw [both_c hx.2.1 hy.2.1] at e3
    rw [both_c hx.2.2 hy.2.2] at e4
    have e5 : x.a.c = x.c1 := rfl
    have e6 : y.a.c = y.c1 := rfl
    have e7 : x.b.c = x.c2 := rfl
    have e8 : y.b.c = y.c2 := rfl
    unfold farE at hf hyf
    exact ih (enw_J hx hy) ⟨by omega, by omega, by omega⟩ (fun z hz => h z (by simp [hz]))
theorem enok_parts {x : En} : enok x = true ↔ enR x ∧ farE x := by
  rw [enok_iff]
  unfold enR farE
  constructor
  · rintro ⟨⟨h1, h2, h3⟩, h4, h5, h6⟩; exact ⟨⟨h2, h4, h5⟩, h1, h3, h6⟩
  · rintro ⟨⟨h2, h4, h5⟩, h1, h3, h6⟩; exact ⟨⟨h1, h2, h3⟩, h4, h5, h6⟩
/-- A right entry put into right ones, and not too many values: they are right. -/
theorem put_ok {sess : Bool} {l : List En} {x : En} (hx : enok x = true) (hl : ∀ y ∈ l, enok y = true) (hf : (putE sess l x).2 = true) : ∀ y ∈ (putE sess l x).1, enok y = true := by
  have hxp := enok_parts.1 hx
  have hR := (putE_R (sess := sess) hxp.1 (fun y hy => (enok_parts.1 (hl y hy)).1) hf).1
  intro y hy
  refine enok_parts.2 ⟨hR y hy, ?_⟩
  obtain ⟨ys, h1, h2, h3, _⟩ := (absorb_meets (hitE sess) l.length l x).facts
  rcases put_mem.1 hy with rfl | h
  · rw [h3]
    exact foldJ_far (enR_w hxp.1) hxp.2 (fun z hz => by
      have := enok_parts.1 (hl z (h1.mem_iff.2 (List.mem_append_left _ hz)))
      exact ⟨enR_w this.1, this.2⟩)
  · exact (enok_parts.1 (hl y (h2.subset h))).2
theorem foldW_cons {f : List En → En → List En × Bool} {mk : Int × Int → En} {p : Int × Int} {ss : List (Int × Int)} {l : List En} (h : (foldW f mk (p :: ss) l).2 = true) :
    (f l (mk p)).2 = true ∧ foldW f mk (p :: ss) l = foldW f mk ss (f l (mk p)).1 := by
  have hb : (f l (mk p)).2 = true := by
    cases hq : (f l (mk p)).2 with
    | true => rfl
    | false =>
      unfold foldW at h
      rw [List.foldl_cons] at h
      simp only [Bool.true_and, hq] at h
      rw [fold_false] at h
      cases h
  refine ⟨hb, ?_⟩
  unfold foldW
  rw [List.foldl_cons]
  simp only [Bool.true_and, hb]
theorem foldW_ind {Q : List En → Prop} {f : List En → En → List En × Bool} {mk : Int × Int → En} : ∀ (ss : List (Int × Int)) (l : List En), Q l → (∀ p ∈ ss, ∀ l, Q l → (f l (mk p)).2 = true → Q (f l (mk p)).1) → (foldW f mk ss l).2 = true → Q (foldW f mk ss l).1
  | [], l, h, _, _ => h
  | p :: ss, l, h, hq, hf => by
    obtain ⟨h1, h2⟩ := foldW_cons hf
    rw [h2] at hf ⊢
    exact foldW_ind ss _ (hq p (by simp) l h h1) (fun q hq' => hq q (by simp [hq'])) hf
theorem recE_ok {wk ws we k t v d : Int} {q : Int × Int} (hw : wok wk ws we) (ht : -1099511627776 ≤ t ∧ t ≤ 1099511627776) (hq : q.2 = q.1 + ws ∧ q.1 ≤ t ∧ t < q.2) : enok (recE k v d q.1 q.2) = true := by
  have hw1 := hw.1
  refine enok_parts.2 ⟨recE_R (by omega), ?_⟩
  have e1 : (recE k v d q.1 q.2).s = q.1 := by unfold recE; rfl
  have e2 : (recE k v d q.1 q.2).e = q.2 := by unfold recE; rfl
  have e3 : (recE k v d q.1 q.2).c1 + (recE k v d q.1 q.2).c2 = 1 := by unfold recE; split <;> simp [mkEn, accV, acc0]
  exact ⟨by omega, by omega, by omega⟩
/-- What an Add leaves. -/
theorem add_facts {l L : List En} {wk ws we rk rt rv side : Int} (h0 : enchk l = 0) (h : addE l wk ws we rk rt rv side = (L, 0)) :
    enchk L = 0 ∧ L.filter (fun y => y.k != rk) = l.filter (fun y => y.k != rk) ∧ ∃ x ∈ L, x.k = rk ∧ x.s ≤ rt ∧ rt < x.e := by
  obtain ⟨c1, c2, c3⟩ := enchk_zero.1 h0
  have hR : ∀ y ∈ l, enw y := fun y hy => enR_w (enok_parts.1 (c2 y hy)).1
  unfold addE at h
  rw [if_neg (by simp [h0])] at h
  by_cases hw : wok wk ws we
  · rw [if_neg (by simp [hw])] at h
    by_cases hs : side < 0 ∨ 1 < side
    · rw [if_pos hs] at h; injection h with _ h; omega
    · rw [if_neg hs] at h
      by_cases ht : rt < -1099511627776 ∨ 1099511627776 < rt
      · rw [if_pos ht] at h; injection h with _ h; omega
      · rw [if_neg ht] at h
        have hw1 := hw.1
        have t1 : -1099511627776 ≤ rt := by omega
        have t2 : rt ≤ 1099511627776 := by omega
        rw [givE_put c3 hR (fun p hp => enR_w (recE_R hp)) (fun _ => (wspans_ok hw t1 t2).1)] at h
        by_cases hk : wk = 3
        · rw [if_pos hk] at h
          simp only at h
          by_cases hf : ((putE true l (recE rk rv side rt (rt + ws))).2 && decide ((putE true l (recE rk rv side rt (rt + ws))).1.length ≤ 4000)) = true
          · rw [if_pos hf] at h
            injection h with h _
            subst h
            simp only [Bool.and_eq_true, decide_eq_true_eq] at hf
            have hx : enw (recE rk rv side rt (rt + ws)) := enR_w (recE_R (by omega))
            have hok := recE_ok (k := rk) (v := rv) (d := side) (q := (rt, rt + ws)) hw ⟨t1, t2⟩ ⟨rfl, by simp, by simp; omega⟩
            refine ⟨enchk_zero.2 ⟨hf.2, put_ok hok c2 hf.1, (putE_ss c3).1⟩, put_other c3 hx hR, ?_⟩
            obtain ⟨z, hz, z1, z2, z3⟩ := put_has (sess := true) hx hR
            exact ⟨z, hz, z1, z2, by have : (recE rk rv side rt (rt + ws)).e = rt + ws := rfl; omega⟩
          · rw [if_neg hf] at h; injection h with _ h; omega
        · rw [if_neg hk] at h
          simp only at h
          by_cases hf : ((foldW (putE false) (fun p => recE rk rv side p.1 p.2) (wspans wk ws we rt) l).2 && decide ((foldW (putE false) (fun p => recE rk rv side p.1 p.2) (wspans wk ws we rt) l).1.length ≤ 4000)) = true
          · rw [if_pos hf] at h
            injection h with h _
            subst h
            simp only [Bool.and_eq_true, decide_eq_true_eq] at hf
            have hsp : ∀ p ∈ wspans wk ws we rt, p.2 = p.1 + ws ∧ p.1 ≤ rt ∧ rt < p.2 := fun p hp => by
              have := (mem_wspans hw hk t1 t2 p).1 hp
              omega
            let Q : List En → Prop := fun a => SS a ∧ (∀ y ∈ a, enok y = true) ∧ a.filter (fun y => y.k != rk) = l.filter (fun y => y.k != rk)
            have hstep : ∀ p ∈ wspans wk ws we rt, ∀ a, Q a → (putE false a (recE rk rv side p.1 p.2)).2 = true → Q (putE false a (recE rk rv side p.1 p.2)).1 := fun p hp a ha hfl => by
              obtain ⟨a1, a2, a3⟩ := ha
              have hpp := hsp p hp
              have hx : enw (recE rk rv side p.1 p.2) := enR_w (recE_R (by omega))
              have hw2 : ∀ y ∈ a, enw y := fun y hy => enR_w (enok_parts.1 (a2 y hy)).1
              exact ⟨(putE_ss a1).1, put_ok (recE_ok hw ⟨t1, t2⟩ hpp) a2 hfl, (put_other a1 hx hw2).trans a3⟩
            have hQ0 : Q l := ⟨c3, c2, rfl⟩
            have hQ := foldW_ind (Q := Q) _ l hQ0 hstep hf.1
            refine ⟨enchk_zero.2 ⟨hf.2, hQ.2.1, hQ.1⟩, hQ.2.2, ?_⟩
            have hne : wspans wk ws we rt ≠ [] := by
              unfold wspans
              by_cases h1 : wk = 1
              · rw [if_pos h1]; simp
              · rw [if_neg h1]
                have h2 : wk = 2 ∧ 1 ≤ we ∧ we ≤ ws ∧ ws ≤ 16 * we := by have := hw.2; omega
                have hr : sright ws we := ⟨hw1.1, h2.2.1, hw1.2, h2.2.2.1, h2.2.2.2⟩
                intro hc
                have := swins_len (t := rt) hr
                rw [hc] at this
                have := (scount_facts (t := rt) hr).1
                simp at *
                omega
            obtain ⟨p, ss, hps⟩ := List.exists_cons_of_ne_nil hne
            rw [hps] at hf hsp hstep ⊢
            obtain ⟨f1, f2⟩ := foldW_cons hf.1
            rw [f2]
            have hf3 := hf.1
            rw [f2] at hf3
            have hpp := hsp p (by simp)
            let Q2 : List En → Prop := fun a => Q a ∧ ∃ x ∈ a, x.k = rk ∧ x.s = p.1 ∧ x.e = p.2
            have hw0 : ∀ a, Q a → ∀ y ∈ a, enw y := fun a ha y hy => enR_w (enok_parts.1 (ha.2.1 y hy)).1
            have hone : ∀ q ∈ p :: ss, ∀ a, Q a → ((∃ x ∈ a, x.k = rk ∧ x.s = p.1 ∧ x.e = p.2) ∨ q = p) → ∃ x ∈ (putE false a (recE rk rv side q.1 q.2)).1, x.k = rk ∧ x.s = p.1 ∧ x.e = p.2 := fun q hq a ha hor => by
              have hqq := hsp q hq
              have hx : enw (recE rk rv side q.1 q.2) := enR_w (recE_R (by omega))
              obtain ⟨r1, r2, r3⟩ : (recE rk rv side q.1 q.2).k = rk ∧ (recE rk rv side q.1 q.2).s = q.1 ∧ (recE rk rv side q.1 q.2).e = q.2 := ⟨rfl, rfl, rfl⟩
              rcases put_one ha.1 hx (hw0 a ha) with ⟨y, hy, hyx, hz⟩ | ⟨hno, hz⟩
              · obtain ⟨y1, y2, y3⟩ := hyx
                have k1 : (enJ (recE rk rv side q.1 q.2) y).k = rk := rfl
                have k2 : (enJ (recE rk rv side q.1 q.2) y).s = q.1 := by show min (recE rk rv side q.1 q.2).s y.s = _; omega
                have k3 : (enJ (recE rk rv side q.1 q.2) y).e = q.2 := by show max (recE rk rv side q.1 q.2).e y.e = _; omega
                rcases hor with ⟨x, hx1, hx2, hx3, hx4⟩ | rfl
                · by_cases hsx : sameW x (recE rk rv side q.1 q.2)
                  · obtain ⟨s1, s2, s3⟩ := hsx
                    exact ⟨_, (hz _).2 (.inl rfl), k1, by omega, by omega⟩
                  · exact ⟨x, (hz _).2 (.inr ⟨hx1, hsx⟩), hx2, hx3, hx4⟩
                · exact ⟨_, (hz _).2 (.inl rfl), k1, k2, k3⟩
              · rcases hor with ⟨x, hx1, hx2, hx3, hx4⟩ | rfl
                · exact ⟨x, (hz _).2 (.inr hx1), hx2, hx3, hx4⟩
                · exact ⟨_, (hz _).2 (.inl rfl), r1, r2, r3⟩
            have hQ2 := foldW_ind (Q := Q2) ss _ ⟨hstep p (by simp) l hQ0 f1, hone p (by simp) l hQ0 (.inr rfl)⟩ (fun q hq a ha hfl => ⟨hstep q (by simp [hq]) a ha.1 hfl, hone q (by simp [hq]) a ha.1 (.inl ha.2)⟩) hf3
            obtain ⟨x, hx, x1, x2, x3⟩ := hQ2.2
            exact ⟨x, hx, x1, by omega, by omega⟩
          · rw [if_neg hf] at h; injection h with _ h; omega
  · rw [if_pos hw] at h; injection h with _ h; omega
end Go.Proofs.Ytbbdepeifdbbdaa
