/- What a store holds of the records that were put in (chapter 17), second part: a record more. Plain. No condition. -/
import Derived.Test.YtbbdepeifdbbdaaStoreInv
import Derived.Test.YtbbdepeifdbbdaaStoreGiven
import Derived.Test.YtbbdepeifdbbdaaSessPlain2
namespace Go.Proofs.Ytbbdepeifdbbdaa
open Go.RowKit

theorem put_mem {sess : Bool} {l : List En} {x z : En} : z ∈ (putE sess l x).1 ↔ z = (absorb (hitE sess) l.length l x).2 ∨ z ∈ (absorb (hitE sess) l.length l x).1 := by
  unfold putE
  rw [(insE_perm _ _).mem_iff, List.mem_cons]
def sameW (y x : En) : Prop := y.k = x.k ∧ y.s = x.s ∧ y.e = x.e
theorem ss_one {l : List En} (h : SS l) {y z : En} (hy : y ∈ l) (hz : z ∈ l) (hs : sameW y z) : y = z := by
  obtain ⟨i, hi⟩ := List.mem_iff_getElem?.1 hy
  obtain ⟨j, hj⟩ := List.mem_iff_getElem?.1 hz
  have hno : ∀ {a b : En}, sameW a b → enlt a b = false := fun {a b} h => by
    unfold sameW at h
    cases hb : enlt a b with
    | false => rfl
    | true => rw [enlt_iff] at hb; omega
  rcases Nat.lt_trichotomy i j with h1 | h1 | h1
  · have := ss_get h h1 hi hj; rw [hno hs] at this; cases this
  · subst h1; rw [hi] at hj; exact Option.some.inj hj
  · have := ss_get h h1 hj hi
    rw [hno ⟨hs.1.symm, hs.2.1.symm, hs.2.2.symm⟩] at this; cases this
/-- An entry put in, no session: it is joined with the one of its key and window, or it is new. -/
theorem put_one {l : List En} {x : En} (hs : SS l) (hx : enw x) (hl : ∀ y ∈ l, enw y) :
    (∃ y ∈ l, sameW y x ∧ ∀ z, z ∈ (putE false l x).1 ↔ z = enJ x y ∨ (z ∈ l ∧ ¬ sameW z x)) ∨ ((∀ y ∈ l, ¬ sameW y x) ∧ ∀ z, z ∈ (putE false l x).1 ↔ z = x ∨ z ∈ l) := by
  have hm := absorb_meets (hitE false) l.length l x
  have he := absorb_ended (hitE false) l.length l x (Nat.le_refl _)
  obtain ⟨h1, ⟨ys, h2, h3⟩, h4, h5, _, _, h8, _⟩ := hm.ended hx hl he
  have h8' := h8 rfl
  obtain ⟨L', hL'⟩ : ∃ L', L' = (absorb (hitE false) l.length l x).1 := ⟨_, rfl⟩
  obtain ⟨x', hx'⟩ : ∃ x', x' = (absorb (hitE false) l.length l x).2 := ⟨_, rfl⟩
  have hmem : ∀ z, z ∈ (putE false l x).1 ↔ z = x' ∨ z ∈ L' := fun z => by rw [put_mem, ← hL', ← hx']
  rw [← hL', ← hx'] at h1
  rw [← hx'] at h2 h3 h5 h8'
  have hh : hitE false x' = hitE false x := hitE_congr h5 h8'.1 h8'.2
  rw [hh] at h1 h2
  have hit : ∀ y, hitE false x y = true ↔ sameW y x := fun y => by rw [hitE_one]; simp [sameW]
  cases ys with
  | nil =>
    right
    have hno : ∀ y ∈ l, ¬ sameW y x := fun y hy hsy => by
      have : y ∈ l.filter (hitE false x) := List.mem_filter.2 ⟨hy, (hit y).2 hsy⟩
      rw [← h2.mem_iff] at this
      cases this
    refine ⟨hno, fun z => ?_⟩
    rw [hmem, h3, h1, List.mem_filter]
    simp only [List.foldl_nil]
    constructor
    · rintro (h | h); exact .inl h; exact .inr h.1
    · rintro (h | h)
      · exact .inl h
      · refine .inr ⟨h, ?_⟩
        cases hq : hitE false x z with
        | false => rfl
        | true => exact absurd ((hit z).1 hq) (hno z h)
  | cons y ys =>
    left
    have hy : y ∈ l.filter (hitE false x) := h2.mem_iff.1 (by simp)
    obtain ⟨hyl, hyx⟩ := List.mem_filter.1 hy
    have hys := (hit y).1 hyx
    have hnil : ys = [] := by
      cases ys with
      | nil => rfl
      | cons z ys =>
        exfalso
        have hz : z ∈ l.filter (hitE false x) := h2.mem_iff.1 (by simp)
        obtain ⟨hzl, hzx⟩ := List.mem_filter.1 hz
        have hzs := (hit z).1 hzx
        have e : y = z := ss_one hs hyl hzl ⟨hys.1.trans hzs.1.symm, hys.2.1.trans hzs.2.1.symm, hys.2.2.trans hzs.2.2.symm⟩
        subst e
        have hnd : (l.filter (hitE false x)).Pairwise (· ≠ ·) := (ss_sub hs List.filter_sublist).imp (fun {a b} h e => by subst e; rw [enlt_irr] at h; cases h)
        have := (h2.pairwise_iff (fun h => Ne.symm h)).2 hnd
        rw [List.pairwise_cons] at this
        exact this.1 y (by simp) rfl
    subst hnil
    refine ⟨y, hyl, hys, fun z => ?_⟩
    rw [hmem, h3, h1, List.mem_filter]
    simp only [List.foldl_cons, List.foldl_nil]
    constructor
    · rintro (h | h)
      · exact .inl h
      · refine .inr ⟨h.1, fun hq => ?_⟩
        have := (hit z).2 hq
        have h9 := h.2
        rw [this] at h9
        cases h9
    · rintro (h | h)
      · exact .inl h
      · refine .inr ⟨h.1, ?_⟩
        cases hq : hitE false x z with
        | false => rfl
        | true => exact absurd ((hit z).1 hq) h.2

/-! ### no sessions -/
/-- A window of a key's records. -/
def winN (wk ws we : Int) (P : List Pt) (k : Int) (sp : Int × Int) : Prop := ∃ r ∈ P, r.k = k ∧ sp ∈ wspans wk ws we r.t
/-- What is in a store, while a record is put in: some of its windows are done. -/
def Mid (wk ws we : Int) (P : List Pt) (p : Pt) (T : List (Int × Int)) (a : List En) : Prop :=
  SS a ∧ ∀ x, x ∈ a ↔ (((x.k = p.k ∧ (x.s, x.e) ∈ T) ∧ Rig (P ++ [p]) x) ∨ (¬ (x.k = p.k ∧ (x.s, x.e) ∈ T) ∧ winN wk ws we P x.k (x.s, x.e) ∧ Rig P x))
def InvN (wk ws we : Int) (P : List Pt) (a : List En) : Prop := SS a ∧ ∀ x, x ∈ a ↔ (winN wk ws we P x.k (x.s, x.e) ∧ Rig P x)
theorem Mid.w {wk ws we : Int} {P : List Pt} {p : Pt} {T : List (Int × Int)} {a : List En} (h : Mid wk ws we P p T a) (hw : wok wk ws we) (hk : wk ≠ 3) (hP : ∀ r ∈ P, okP r) (hp : okP p) (hT : ∀ q ∈ T, q ∈ wspans wk ws we p.t) :
    ∀ y ∈ a, enw y := fun y hy => by
  have h0 := hw.1
  rcases (h.2 y).1 hy with ⟨⟨_, h1⟩, h2⟩ | ⟨_, ⟨r, hr, _, h1⟩, h2⟩
  · have := (mem_wspans hw hk hp.1.1 hp.1.2 _).1 (hT _ h1)
    exact ⟨by simp only at this; omega, h2.wk⟩
  · have := (mem_wspans hw hk (hP r hr).1.1 (hP r hr).1.2 _).1 h1
    exact ⟨by simp only at this; omega, h2.wk⟩
theorem mid_step {wk ws we : Int} {P : List Pt} {p : Pt} {T : List (Int × Int)} {a : List En} (h : Mid wk ws we P p T a) (hw : wok wk ws we) (hk : wk ≠ 3) (hP : ∀ r ∈ P, okP r) (hp : okP p) (hT : ∀ q ∈ T, q ∈ wspans wk ws we p.t)
    {q : Int × Int} (hq : q ∈ wspans wk ws we p.t) (hqT : q ∉ T) : Mid wk ws we P p (T ++ [q]) (putE false a (recP p q)).1 := by
  have hqf := (mem_wspans hw hk hp.1.1 hp.1.2 _).1 hq
  have h0 := hw.1
  have hqlt : q.1 < q.2 := by omega
  obtain ⟨r1, r2, r3, _, _⟩ := recP_f p q
  have hx : enw (recP p q) := recP_w hqlt
  have ha := h.w hw hk hP hp hT
  refine ⟨(putE_ss h.1).1, fun x => ?_⟩
  have hsw : ∀ z : En, sameW z (recP p q) ↔ z.k = p.k ∧ (z.s, z.e) = q := fun z => by
    unfold sameW
    rw [r1, r2, r3]
    constructor
    · rintro ⟨e1, e2, e3⟩; exact ⟨e1, Prod.ext e2 e3⟩
    · rintro ⟨e1, e2⟩; exact ⟨e1, congrArg Prod.fst e2, congrArg Prod.snd e2⟩
  have hin : ∀ z : En, (z.k = p.k ∧ (z.s, z.e) ∈ T ++ [q]) ↔ ((z.k = p.k ∧ (z.s, z.e) ∈ T) ∨ sameW z (recP p q)) := fun z => by
    rw [hsw, List.mem_append, List.mem_singleton]
    constructor
    · rintro ⟨e1, e2 | e2⟩; exact .inl ⟨e1, e2⟩; exact .inr ⟨e1, e2⟩
    · rintro (⟨e1, e2⟩ | ⟨e1, e2⟩); exact ⟨e1, .inl e2⟩; exact ⟨e1, .inr e2⟩
  have hnT : ∀ z : En, sameW z (recP p q) → ¬ (z.k = p.k ∧ (z.s, z.e) ∈ T) := fun z hz hz2 => by
    have := ((hsw z).1 hz).2
    rw [this] at hz2
    exact hqT hz2.2
  rw [hin]
  rcases put_one h.1 hx ha with ⟨y, hy, hyx, hz⟩ | ⟨hno, hz⟩
  · rw [hz]
    have hy2 : winN wk ws we P y.k (y.s, y.e) ∧ Rig P y := by
      rcases (h.2 y).1 hy with ⟨h1, _⟩ | ⟨_, h2⟩
      · exact absurd h1 (hnT y hyx)
      · exact h2
    have hyq := (hsw y).1 hyx
    have hj := rig_join hp.2 hy2.2 hyq.1 (congrArg Prod.fst hyq.2) (congrArg Prod.snd hyq.2) (by omega)
    have k1 : (enJ (recP p q) y).k = p.k := r1
    have k2 : (enJ (recP p q) y).s = q.1 := by show min (recP p q).s y.s = _; have := congrArg Prod.fst hyq.2; simp only at this; omega
    have k3 : (enJ (recP p q) y).e = q.2 := by show max (recP p q).e y.e = _; have := congrArg Prod.snd hyq.2; simp only at this; omega
    constructor
    · rintro (rfl | ⟨h1, h2⟩)
      · exact .inl ⟨.inr ((hsw _).2 ⟨k1, Prod.ext k2 k3⟩), hj⟩
      · rcases (h.2 x).1 h1 with ⟨g1, g2⟩ | ⟨g1, g2⟩
        · exact .inl ⟨.inl g1, g2⟩
        · exact .inr ⟨fun hc => hc.elim g1 h2, g2⟩
    · rintro (⟨g1 | g1, g2⟩ | ⟨g1, g2⟩)
      · exact .inr ⟨(h.2 x).2 (.inl ⟨g1, g2⟩), fun hc => hnT x hc g1⟩
      · left
        have hxq := (hsw x).1 g1
        exact g2.unique hj (hxq.1.trans k1.symm) ((congrArg Prod.fst hxq.2).trans k2.symm) ((congrArg Prod.snd hxq.2).trans k3.symm)
      · exact .inr ⟨(h.2 x).2 (.inr ⟨fun hc => g1 (.inl hc), g2⟩), fun hc => g1 (.inr hc)⟩
  · rw [hz]
    have hnew : Rig (P ++ [p]) (recP p q) := rig_new hp.2 (fun r hr hrk hrt => by
      have hwin : q ∈ wspans wk ws we r.t := (mem_wspans hw hk (hP r hr).1.1 (hP r hr).1.2 q).2 ⟨hqf.1, hqf.2.1, hrt.1, by omega⟩
      refine hno (entP P p.k q.1 q.2) ((h.2 _).2 (.inr ⟨hnT _ ((hsw _).2 ⟨rfl, rfl⟩), ⟨r, hr, hrk, hwin⟩, entP_rig P p.k q.1 q.2⟩)) ((hsw _).2 ⟨rfl, rfl⟩)) (by omega)
    have hself : sameW (recP p q) (recP p q) := ⟨rfl, rfl, rfl⟩
    constructor
    · rintro (rfl | h1)
      · exact .inl ⟨.inr hself, hnew⟩
      · rcases (h.2 x).1 h1 with ⟨g1, g2⟩ | ⟨g1, g2⟩
        · exact .inl ⟨.inl g1, g2⟩
        · exact .inr ⟨fun hc => hc.elim g1 (hno x h1), g2⟩
    · rintro (⟨g1 | g1, g2⟩ | ⟨g1, g2⟩)
      · exact .inr ((h.2 x).2 (.inl ⟨g1, g2⟩))
      · exact .inl (g2.unique hnew g1.1 g1.2.1 g1.2.2)
      · exact .inr ((h.2 x).2 (.inr ⟨fun hc => g1 (.inl hc), g2⟩))
theorem mid_end {wk ws we : Int} {P : List Pt} {p : Pt} {a : List En} (h : Mid wk ws we P p (wspans wk ws we p.t) a) (hw : wok wk ws we) (hk : wk ≠ 3) (hP : ∀ r ∈ P, okP r) (hp : okP p) : InvN wk ws we (P ++ [p]) a := by
  refine ⟨h.1, fun x => (h.2 x).trans ?_⟩
  have hfar : ∀ x : En, ¬ (x.k = p.k ∧ (x.s, x.e) ∈ wspans wk ws we p.t) → winN wk ws we P x.k (x.s, x.e) → inE x p = false := fun x h1 ⟨r, hr, _, hr2⟩ => by
    have := (mem_wspans hw hk (hP r hr).1.1 (hP r hr).1.2 _).1 hr2
    unfold inE
    rw [decide_eq_false_iff_not]
    rintro ⟨e1, e2, e3⟩
    refine h1 ⟨e1.symm, (mem_wspans hw hk hp.1.1 hp.1.2 _).2 ⟨this.1, this.2.1, e2, ?_⟩⟩
    simp only at this ⊢
    omega
  constructor
  · rintro (⟨⟨g1, g2⟩, g3⟩ | ⟨g1, g2, g3⟩)
    · exact ⟨⟨p, by simp, g1.symm, g2⟩, g3⟩
    · refine ⟨?_, (Rig.far (hfar x g1 g2)).2 g3⟩
      obtain ⟨r, hr, g4, g5⟩ := g2
      exact ⟨r, by simp [hr], g4, g5⟩
  · rintro ⟨⟨r, hr, g4, g5⟩, g3⟩
    by_cases h1 : x.k = p.k ∧ (x.s, x.e) ∈ wspans wk ws we p.t
    · exact .inl ⟨h1, g3⟩
    · rcases List.mem_append.1 hr with hr | hr
      · have hwin : winN wk ws we P x.k (x.s, x.e) := ⟨r, hr, g4, g5⟩
        exact .inr ⟨h1, hwin, (Rig.far (hfar x h1 hwin)).1 g3⟩
      · obtain rfl := List.mem_singleton.1 hr
        exact absurd ⟨g4.symm, g5⟩ h1
theorem mid_begin {wk ws we : Int} {P : List Pt} {p : Pt} {a : List En} (h : InvN wk ws we P a) : Mid wk ws we P p [] a := by
  refine ⟨h.1, fun x => (h.2 x).trans ?_⟩
  simp
theorem mid_all {wk ws we : Int} {P : List Pt} {p : Pt} {a : List En} (h : InvN wk ws we P a) (hw : wok wk ws we) (hk : wk ≠ 3) (hP : ∀ r ∈ P, okP r) (hp : okP p) :
    ∀ n, n ≤ (wspans wk ws we p.t).length → Mid wk ws we P p ((wspans wk ws we p.t).take n) (foldW (putE false) (recP p) ((wspans wk ws we p.t).take n) a).1
  | 0, _ => by simpa [foldW] using mid_begin h
  | n + 1, hn => by
    have ih := mid_all h hw hk hP hp n (by omega)
    have hq : (wspans wk ws we p.t)[n]? = some ((wspans wk ws we p.t)[n]) := List.getElem?_eq_getElem (by omega)
    rw [foldW_snoc hq]
    have e : (wspans wk ws we p.t).take (n + 1) = (wspans wk ws we p.t).take n ++ [(wspans wk ws we p.t)[n]] := by rw [List.take_add_one, hq]; rfl
    rw [e]
    refine mid_step ih hw hk hP hp (fun q hq => List.mem_of_mem_take hq) (List.getElem_mem _) (fun hc => ?_)
    obtain ⟨j, hj⟩ := List.mem_iff_getElem?.1 hc
    rw [List.getElem?_take] at hj
    split at hj
    · rename_i hlt
      obtain ⟨hj1, hj2⟩ := List.getElem?_eq_some_iff.1 hj
      have := List.pairwise_iff_getElem.1 (wspans_nodup (t := p.t) hw hk) j n hj1 (by omega) hlt
      rw [hj2] at this
      omega
    · cases hj
theorem inv_fold {wk ws we : Int} {P : List Pt} {p : Pt} {a : List En} (h : InvN wk ws we P a) (hw : wok wk ws we) (hk : wk ≠ 3) (hP : ∀ r ∈ P, okP r) (hp : okP p) :
    InvN wk ws we (P ++ [p]) (foldW (putE false) (recP p) (wspans wk ws we p.t) a).1 := by
  have := mid_all h hw hk hP hp _ (Nat.le_refl _)
  rw [List.take_length] at this
  exact mid_end this hw hk hP hp
end Go.Proofs.Ytbbdepeifdbbdaa
