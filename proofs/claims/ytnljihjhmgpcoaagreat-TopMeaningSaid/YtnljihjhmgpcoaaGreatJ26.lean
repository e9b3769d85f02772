/- Lemmas and contracts for the statement, joined into one text: StoreInv2, StoreKeysP, StoreLaw, StoreInv3, StoreInv4, MeanPre, RewPlain, StoreAliveP. The conditions of each stand at its head. -/
import Derived.Test.YtnljihjhmgpcoaaGreatJ11
import Derived.Test.YtnljihjhmgpcoaaGreatJ23
import Derived.Test.YtnljihjhmgpcoaaGreatJ25
import Derived.Test.YtnljihjhmgpcoaaGreatJ1
namespace Go.Proofs.YtnljihjhmgpcoaaGreat
open Go.RowKit
theorem put_mem {sess : Bool} {l : List En} {x z : En} : z ∈ (putE sess l x).1 ↔ z = (absorb (hitE sess) l.length l x).2 ∨ z ∈ (absorb (hitE sess) l.length l x).1 := by
 unfold putE
 rw [(insE_perm _ _).mem_iff, List.mem_cons]
def sameW (y x : En) : Prop := y.k = x.k ∧ y.s = x.s ∧ y.e = x.e
theorem ss_one {l : List En} (h : SS l) {y z : En} (hy : y ∈ l) (hz : z ∈ l) (hs : sameW y z) : y = z := by
 obtain ⟨i, hi⟩ := List.mem_iff_getElem?.1 hy
 obtain ⟨j, hj⟩ := List.mem_iff_getElem?.1 hz
 have hno : ∀ {a b : En}, sameW a b → enlt a b = false := fun {a b} h => by
  unfold sameW at h
  cases hb : enlt a b with
  | false => rfl
  | true => rw [enlt_iff] at hb; omega
 rcases Nat.lt_trichotomy i j with h1 | h1 | h1
 ·have := ss_get h h1 hi hj; rw [hno hs] at this; cases this
 ·subst h1; rw [hi] at hj; exact Option.some.inj hj
 ·have := ss_get h h1 hj hi
  rw [hno ⟨hs.1.symm, hs.2.1.symm, hs.2.2.symm⟩] at this; cases this
/-- An entry put in, no session: it is joined with the one of its key and window, or it is new. -/
theorem put_one {l : List En} {x : En} (hs : SS l) (hx : enw x) (hl : ∀ y ∈ l, enw y) :
  (∃ y ∈ l, sameW y x ∧ ∀ z, z ∈ (putE false l x).1 ↔ z = enJ x y ∨ (z ∈ l ∧ ¬ sameW z x)) ∨ ((∀ y ∈ l, ¬ sameW y x) ∧ ∀ z, z ∈ (putE false l x).1 ↔ z = x ∨ z ∈ l) := by
 have hm := absorb_meets (hitE false) l.length l x
 have he := absorb_ended (hitE false) l.length l x (Nat.le_refl _)
 obtain ⟨h1, ⟨ys, h2, h3⟩, h4, h5, _, _, h8, _⟩ := hm.ended hx hl he
 have h8' := h8 rfl
 obtain ⟨L', hL'⟩ : ∃ L', L' = (absorb (hitE false) l.length l x).1 := ⟨_, rfl⟩
 obtain ⟨x', hx'⟩ : ∃ x', x' = (absorb (hitE false) l.length l x).2 := ⟨_, rfl⟩
 have hmem : ∀ z, z ∈ (putE false l x).1 ↔ z = x' ∨ z ∈ L' := fun z => by rw [put_mem, ← hL', ← hx']
 rw [← hL', ← hx'] at h1
 rw [← hx'] at h2 h3 h5 h8'
 have hh : hitE false x' = hitE false x := hitE_congr h5 h8'.1 h8'.2
 rw [hh] at h1 h2
 have hit : ∀ y, hitE false x y = true ↔ sameW y x := fun y => by rw [hitE_one]; simp [sameW]
 cases ys with
 | nil =>
  right
  have hno : ∀ y ∈ l, ¬ sameW y x := fun y hy hsy => by
   have : y ∈ l.filter (hitE false x) := List.mem_filter.2 ⟨hy, (hit y).2 hsy⟩
   rw [← h2.mem_iff] at this
   cases this
  refine ⟨hno, fun z => ?_⟩
  rw [hmem, h3, h1, List.mem_filter]
  simp only [List.foldl_nil]
  constructor
  ·rintro (h | h); exact .inl h; exact .inr h.1
  ·rintro (h | h)
   ·exact .inl h
   ·refine .inr ⟨h, ?_⟩
    cases hq : hitE false x z with
    | false => rfl
    | true => exact absurd ((hit z).1 hq) (hno z h)
 | cons y ys =>
  left
  have hy : y ∈ l.filter (hitE false x) := h2.mem_iff.1 (by simp)
  obtain ⟨hyl, hyx⟩ := List.mem_filter.1 hy
  have hys := (hit y).1 hyx
  have hnil : ys = [] := by
   cases ys with
   | nil => rfl
   | cons z ys =>
    exfalso
    have hz : z ∈ l.filter (hitE false x) := h2.mem_iff.1 (by simp)
    obtain ⟨hzl, hzx⟩ := List.mem_filter.1 hz
    have hzs := (hit z).1 hzx
    have e : y = z := ss_one hs hyl hzl ⟨hys.1.trans hzs.1.symm, hys.2.1.trans hzs.2.1.symm, hys.2.2.trans hzs.2.2.symm⟩
    subst e
    have hnd : (l.filter (hitE false x)).Pairwise (· ≠ ·) := (ss_sub hs List.filter_sublist).imp (fun {a b} h e => by subst e; rw [enlt_irr] at h; cases h)
    have := (h2.pairwise_iff (fun h => Ne.symm h)).2 hnd
    rw [List.pairwise_cons] at this
    exact this.1 y (by simp) rfl
  subst hnil
  refine ⟨y, hyl, hys, fun z => ?_⟩
  rw [hmem, h3, h1, List.mem_filter]
  simp only [List.foldl_cons, List.foldl_nil]
  constructor
  ·rintro (h | h)
   ·exact .inl h
   ·refine .inr ⟨h.1, fun hq => ?_⟩
    have := (hit z).2 hq
    have h9 := h.2
    rw [this] at h9
    cases h9
  ·rintro (h | h)
   ·exact .inl h
   ·refine .inr ⟨h.1, ?_⟩
    cases hq : hitE false x z with
    | false => rfl
    | true => exact absurd ((hit z).1 hq) h.2
/-- A window of a key's records. -/
def winN (wk ws we : Int) (P : List Pt) (k : Int) (sp : Int × Int) : Prop := ∃ r ∈ P, r.k = k ∧ sp ∈ wspans wk ws we r.t
/-- What is in a store, while a record is put in: some of its windows are done. -/
def Mid (wk ws we : Int) (P : List Pt) (p : Pt) (T : List (Int × Int)) (a : List En) : Prop :=
 SS a ∧ ∀ x, x ∈ a ↔ (((x.k = p.k ∧ (x.s, x.e) ∈ T) ∧ Rig (P ++ [p]) x) ∨ (¬ (x.k = p.k ∧ (x.s, x.e) ∈ T) ∧ winN wk ws we P x.k (x.s, x.e) ∧ Rig P x))
def InvN (wk ws we : Int) (P : List Pt) (a : List En) : Prop := SS a ∧ ∀ x, x ∈ a ↔ (winN wk ws we P x.k (x.s, x.e) ∧ Rig P x)
theorem Mid.w {wk ws we : Int} {P : List Pt} {p : Pt} {T : List (Int × Int)} {a : List En} (h : Mid wk ws we P p T a) (hw : wok wk ws we) (hk : wk ≠ 3) (hP : ∀ r ∈ P, okP r) (hp : okP p) (hT : ∀ q ∈ T, q ∈ wspans wk ws we p.t) :
  ∀ y ∈ a, enw y := fun y hy => by
 have h0 := hw.1
 rcases (h.2 y).1 hy with ⟨⟨_, h1⟩, h2⟩ | ⟨_, ⟨r, hr, _, h1⟩, h2⟩
 ·have := (mem_wspans hw hk hp.1.1 hp.1.2 _).1 (hT _ h1)
  exact ⟨by simp only at this; omega, h2.wk⟩
 ·have := (mem_wspans hw hk (hP r hr).1.1 (hP r hr).1.2 _).1 h1
  exact ⟨by simp only at this; omega, h2.wk⟩
theorem mid_step {wk ws we : Int} {P : List Pt} {p : Pt} {T : List (Int × Int)} {a : List En} (h : Mid wk ws we P p T a) (hw : wok wk ws we) (hk : wk ≠ 3) (hP : ∀ r ∈ P, okP r) (hp : okP p) (hT : ∀ q ∈ T, q ∈ wspans wk ws we p.t)
  {q : Int × Int} (hq : q ∈ wspans wk ws we p.t) (hqT : q ∉ T) : Mid wk ws we P p (T ++ [q]) (putE false a (recP p q)).1 := by
 have hqf := (mem_wspans hw hk hp.1.1 hp.1.2 _).1 hq
 have h0 := hw.1
 have hqlt : q.1 < q.2 := by omega
 obtain ⟨r1, r2, r3, _, _⟩ := recP_f p q
 have hx : enw (recP p q) := recP_w hqlt
 have ha := h.w hw hk hP hp hT
 refine ⟨(putE_ss h.1).1, fun x => ?_⟩
 have hsw : ∀ z : En, sameW z (recP p q) ↔ z.k = p.k ∧ (z.s, z.e) = q := fun z => by
  unfold sameW
  rw [r1, r2, r3]
  constructor
  ·rintro ⟨e1, e2, e3⟩; exact ⟨e1, Prod.ext e2 e3⟩
  ·rintro ⟨e1, e2⟩; exact ⟨e1, congrArg Prod.fst e2, congrArg Prod.snd e2⟩
 have hin : ∀ z : En, (z.k = p.k ∧ (z.s, z.e) ∈ T ++ [q]) ↔ ((z.k = p.k ∧ (z.s, z.e) ∈ T) ∨ sameW z (recP p q)) := fun z => by
  rw [hsw, List.mem_append, List.mem_singleton]
  constructor
  ·rintro ⟨e1, e2 | e2⟩; exact .inl ⟨e1, e2⟩; exact .inr ⟨e1, e2⟩
  ·rintro (⟨e1, e2⟩ | ⟨e1, e2⟩); exact ⟨e1, .inl e2⟩; exact ⟨e1, .inr e2⟩
 have hnT : ∀ z : En, sameW z (recP p q) → ¬ (z.k = p.k ∧ (z.s, z.e) ∈ T) := fun z hz hz2 => by
  have := ((hsw z).1 hz).2
  rw [this] at hz2
  exact hqT hz2.2
 rw [hin]
 rcases put_one h.1 hx ha with ⟨y, hy, hyx, hz⟩ | ⟨hno, hz⟩
 ·rw [hz]
  have hy2 : winN wk ws we P y.k (y.s, y.e) ∧ Rig P y := by
   rcases (h.2 y).1 hy with ⟨h1, _⟩ | ⟨_, h2⟩
   ·exact absurd h1 (hnT y hyx)
   ·exact h2
  have hyq := (hsw y).1 hyx
  have hj := rig_join hp.2 hy2.2 hyq.1 (congrArg Prod.fst hyq.2) (congrArg Prod.snd hyq.2) (by omega)
  have k1 : (enJ (recP p q) y).k = p.k := r1
  have k2 : (enJ (recP p q) y).s = q.1 := by show min (recP p q).s y.s = _; have := congrArg Prod.fst hyq.2; simp only at this; omega
  have k3 : (enJ (recP p q) y).e = q.2 := by show max (recP p q).e y.e = _; have := congrArg Prod.snd hyq.2; simp only at this; omega
  constructor
  ·rintro (rfl | ⟨h1, h2⟩)
   ·exact .inl ⟨.inr ((hsw _).2 ⟨k1, Prod.ext k2 k3⟩), hj⟩
   ·rcases (h.2 x).1 h1 with ⟨g1, g2⟩ | ⟨g1, g2⟩
    ·exact .inl ⟨.inl g1, g2⟩
    ·exact .inr ⟨fun hc => hc.elim g1 h2, g2⟩
  ·rintro (⟨g1 | g1, g2⟩ | ⟨g1, g2⟩)
   ·exact .inr ⟨(h.2 x).2 (.inl ⟨g1, g2⟩), fun hc => hnT x hc g1⟩
   ·left
    have hxq := (hsw x).1 g1
    exact g2.unique hj (hxq.1.trans k1.symm) ((congrArg Prod.fst hxq.2).trans k2.symm) ((congrArg Prod.snd hxq.2).trans k3.symm)
   ·exact .inr ⟨(h.2 x).2 (.inr ⟨fun hc => g1 (.inl hc), g2⟩), fun hc => g1 (.inr hc)⟩
 ·rw [hz]
  have hnew : Rig (P ++ [p]) (recP p q) := rig_new hp.2 (fun r hr hrk hrt => by
   have hwin : q ∈ wspans wk ws we r.t := (mem_wspans hw hk (hP r hr).1.1 (hP r hr).1.2 q).2 ⟨hqf.1, hqf.2.1, hrt.1, by omega⟩
   refine hno (entP P p.k q.1 q.2) ((h.2 _).2 (.inr ⟨hnT _ ((hsw _).2 ⟨rfl, rfl⟩), ⟨r, hr, hrk, hwin⟩, entP_rig P p.k q.1 q.2⟩)) ((hsw _).2 ⟨rfl, rfl⟩)) (by omega)
  have hself : sameW (recP p q) (recP p q) := ⟨rfl, rfl, rfl⟩
  constructor
  ·rintro (rfl | h1)
   ·exact .inl ⟨.inr hself, hnew⟩
   ·rcases (h.2 x).1 h1 with ⟨g1, g2⟩ | ⟨g1, g2⟩
    ·exact .inl ⟨.inl g1, g2⟩
    ·exact .inr ⟨fun hc => hc.elim g1 (hno x h1), g2⟩
  ·rintro (⟨g1 | g1, g2⟩ | ⟨g1, g2⟩)
   ·exact .inr ((h.2 x).2 (.inl ⟨g1, g2⟩))
   ·exact .inl (g2.unique hnew g1.1 g1.2.1 g1.2.2)
   ·exact .inr ((h.2 x).2 (.inr ⟨fun hc => g1 (.inl hc), g2⟩))
theorem mid_end {wk ws we : Int} {P : List Pt} {p : Pt} {a : List En} (h : Mid wk ws we P p (wspans wk ws we p.t) a) (hw : wok wk ws we) (hk : wk ≠ 3) (hP : ∀ r ∈ P, okP r) (hp : okP p) : InvN wk ws we (P ++ [p]) a := by
 refine ⟨h.1, fun x => (h.2 x).trans ?_⟩
 have hfar : ∀ x : En, ¬ (x.k = p.k ∧ (x.s, x.e) ∈ wspans wk ws we p.t) → winN wk ws we P x.k (x.s, x.e) → inE x p = false := fun x h1 ⟨r, hr, _, hr2⟩ => by
  have := (mem_wspans hw hk (hP r hr).1.1 (hP r hr).1.2 _).1 hr2
  unfold inE
  rw [decide_eq_false_iff_not]
  rintro ⟨e1, e2, e3⟩
  refine h1 ⟨e1.symm, (mem_wspans hw hk hp.1.1 hp.1.2 _).2 ⟨this.1, this.2.1, e2, ?_⟩⟩
  simp only at this ⊢
  omega
 constructor
 ·rintro (⟨⟨g1, g2⟩, g3⟩ | ⟨g1, g2, g3⟩)
  ·exact ⟨⟨p, by simp, g1.symm, g2⟩, g3⟩
  ·refine ⟨?_, (Rig.far (hfar x g1 g2)).2 g3⟩
   obtain ⟨r, hr, g4, g5⟩ := g2
   exact ⟨r, by simp [hr], g4, g5⟩
 ·rintro ⟨⟨r, hr, g4, g5⟩, g3⟩
  by_cases h1 : x.k = p.k ∧ (x.s, x.e) ∈ wspans wk ws we p.t
  ·exact .inl ⟨h1, g3⟩
  ·rcases List.mem_append.1 hr with hr | hr
   ·have hwin : winN wk ws we P x.k (x.s, x.e) := ⟨r, hr, g4, g5⟩
    exact .inr ⟨h1, hwin, (Rig.far (hfar x h1 hwin)).1 g3⟩
   ·obtain rfl := List.mem_singleton.1 hr
    exact absurd ⟨g4.symm, g5⟩ h1
theorem mid_begin {wk ws we : Int} {P : List Pt} {p : Pt} {a : List En} (h : InvN wk ws we P a) : Mid wk ws we P p [] a := by
 refine ⟨h.1, fun x => (h.2 x).trans ?_⟩
 simp
theorem mid_all {wk ws we : Int} {P : List Pt} {p : Pt} {a : List En} (h : InvN wk ws we P a) (hw : wok wk ws we) (hk : wk ≠ 3) (hP : ∀ r ∈ P, okP r) (hp : okP p) :
  ∀ n, n ≤ (wspans wk ws we p.t).length → Mid wk ws we P p ((wspans wk ws we p.t).take n) (foldW (putE false) (recP p) ((wspans wk ws we p.t).take n) a).1
 | 0, _ => by simpa [foldW] using mid_begin h
 | n + 1, hn => by
  have ih := mid_all h hw hk hP hp n (by omega)
  have hq : (wspans wk ws we p.t)[n]? = some ((wspans wk ws we p.t)[n]) := List.getElem?_eq_getElem (by omega)
  rw [foldW_snoc hq]
  have e : (wspans wk ws we p.t).take (n + 1) = (wspans wk ws we p.t).take n ++ [(wspans wk ws we p.t)[n]] := by rw [List.take_add_one, hq]; rfl
  rw [e]
  refine mid_step ih hw hk hP hp (fun q hq => List.mem_of_mem_take hq) (List.getElem_mem _) (fun hc => ?_)
  obtain ⟨j, hj⟩ := List.mem_iff_getElem?.1 hc
  rw [List.getElem?_take] at hj
  split at hj
  ·rename_i hlt
   obtain ⟨hj1, hj2⟩ := List.getElem?_eq_some_iff.1 hj
   have := List.pairwise_iff_getElem.1 (wspans_nodup (t := p.t) hw hk) j n hj1 (by omega) hlt
   rw [hj2] at this
   omega
  ·cases hj
theorem inv_fold {wk ws we : Int} {P : List Pt} {p : Pt} {a : List En} (h : InvN wk ws we P a) (hw : wok wk ws we) (hk : wk ≠ 3) (hP : ∀ r ∈ P, okP r) (hp : okP p) :
  InvN wk ws we (P ++ [p]) (foldW (putE false) (recP p) (wspans wk ws we p.t) a).1 := by
 have := mid_all h hw hk hP hp _ (Nat.le_refl _)
 rw [List.take_length] at this
 exact mid_end this hw hk hP hp
theorem ss_nodup {l : List En} (h : SS l) : l.Nodup := List.Pairwise.imp (fun {a b} hab e => by subst e; rw [enlt_irr] at hab; cases hab) h
theorem ss_ext {a b : List En} (ha : SS a) (hb : SS b) (h : ∀ x, x ∈ a ↔ x ∈ b) : a = b :=
 SS.unique ((List.perm_ext_iff_of_nodup (ss_nodup ha) (ss_nodup hb)).2 h) ha hb
/-- What is put in changes its own key alone. -/
theorem put_other {sess : Bool} {l : List En} {x : En} (hs : SS l) (hx : enw x) (hl : ∀ y ∈ l, enw y) : (putE sess l x).1.filter (fun y => y.k != x.k) = l.filter (fun y => y.k != x.k) := by
 have hm := absorb_meets (hitE sess) l.length l x
 have he := absorb_ended (hitE sess) l.length l x (Nat.le_refl _)
 obtain ⟨h1, _, _, h5, _⟩ := hm.ended hx hl he
 refine ss_ext (ss_sub (putE_ss hs).1 List.filter_sublist) (ss_sub hs List.filter_sublist) (fun z => ?_)
 rw [List.mem_filter, List.mem_filter, put_mem, h1, List.mem_filter]
 have hk : ∀ y, hitE sess (absorb (hitE sess) l.length l x).2 y = true → y.k = x.k := fun y hy => by
  unfold hitE at hy
  simp only [Bool.and_eq_true, decide_eq_true_eq] at hy
  exact hy.1.trans h5
 constructor
 ·rintro ⟨h | h, h2⟩
  ·rw [h, h5] at h2; simp at h2
  ·exact ⟨h.1, h2⟩
 ·rintro ⟨h, h2⟩
  refine ⟨.inr ⟨h, ?_⟩, h2⟩
  cases hq : hitE sess (absorb (hitE sess) l.length l x).2 z with
  | false => rfl
  | true => have := hk z hq; simp [this] at h2
/-- An entry that covers what is put in. -/
theorem put_has {sess : Bool} {l : List En} {x : En} (hx : enw x) (hl : ∀ y ∈ l, enw y) : ∃ z ∈ (putE sess l x).1, z.k = x.k ∧ z.s ≤ x.s ∧ x.e ≤ z.e := by
 have hm := absorb_meets (hitE sess) l.length l x
 have he := absorb_ended (hitE sess) l.length l x (Nat.le_refl _)
 obtain ⟨_, _, _, h5, h6, h7, _⟩ := hm.ended hx hl he
 exact ⟨_, put_mem.2 (.inl rfl), h5, h6, h7⟩
def farE (x : En) : Prop := -1100585369600 ≤ x.s ∧ x.e ≤ 1100585369600 ∧ 0 < x.c1 + x.c2
theorem foldJ_far {x : En} (hx : enw x) (hf : farE x) : ∀ {ys : List En}, (∀ y ∈ ys, enw y ∧ farE y) → farE (ys.foldl enJ x) := by
 intro ys
 induction ys generalizing x with
 | nil => intro _; exact hf
 | cons y ys ih =>
  intro h
  obtain ⟨hy, hyf⟩ := h y (by simp)
  have e1 : (enJ x y).s = min x.s y.s := rfl
  have e2 : (enJ x y).e = max x.e y.e := rfl
  have e3 : (enJ x y).c1 = (aboth x.a y.a).c := rfl
  have e4 : (enJ x y).c2 = (aboth x.b y.b).c := rfl
  have hc1 := enw_c hx
  have hc2 := enw_c hy
  rw [both_c hx.2.1 hy.2.1] at e3
  rw [both_c hx.2.2 hy.2.2] at e4
  have e5 : x.a.c = x.c1 := rfl
  have e6 : y.a.c = y.c1 := rfl
  have e7 : x.b.c = x.c2 := rfl
  have e8 : y.b.c = y.c2 := rfl
  unfold farE at hf hyf
  exact ih (enw_J hx hy) ⟨by omega, by omega, by omega⟩ (fun z hz => h z (by simp [hz]))
theorem enok_parts {x : En} : enok x = true ↔ enR x ∧ farE x := by
 rw [enok_iff]
 unfold enR farE
 constructor
 ·rintro ⟨⟨h1, h2, h3⟩, h4, h5, h6⟩; exact ⟨⟨h2, h4, h5⟩, h1, h3, h6⟩
 ·rintro ⟨⟨h2, h4, h5⟩, h1, h3, h6⟩; exact ⟨⟨h1, h2, h3⟩, h4, h5, h6⟩
/-- A right entry put into right ones, and not too many values: they are right. -/
theorem put_ok {sess : Bool} {l : List En} {x : En} (hx : enok x = true) (hl : ∀ y ∈ l, enok y = true) (hf : (putE sess l x).2 = true) : ∀ y ∈ (putE sess l x).1, enok y = true := by
 have hxp := enok_parts.1 hx
 have hR := (putE_R (sess := sess) hxp.1 (fun y hy => (enok_parts.1 (hl y hy)).1) hf).1
 intro y hy
 refine enok_parts.2 ⟨hR y hy, ?_⟩
 obtain ⟨ys, h1, h2, h3, _⟩ := (absorb_meets (hitE sess) l.length l x).facts
 rcases put_mem.1 hy with rfl | h
 ·rw [h3]
  exact foldJ_far (enR_w hxp.1) hxp.2 (fun z hz => by
   have := enok_parts.1 (hl z (h1.mem_iff.2 (List.mem_append_left _ hz)))
   exact ⟨enR_w this.1, this.2⟩)
 ·exact (enok_parts.1 (hl y (h2.subset h))).2
theorem foldW_cons {f : List En → En → List En × Bool} {mk : Int × Int → En} {p : Int × Int} {ss : List (Int × Int)} {l : List En} (h : (foldW f mk (p :: ss) l).2 = true) :
  (f l (mk p)).2 = true ∧ foldW f mk (p :: ss) l = foldW f mk ss (f l (mk p)).1 := by
 have hb : (f l (mk p)).2 = true := by
  cases hq : (f l (mk p)).2 with
  | true => rfl
  | false =>
   unfold foldW at h
   rw [List.foldl_cons] at h
   simp only [Bool.true_and, hq] at h
   rw [fold_false] at h
   cases h
 refine ⟨hb, ?_⟩
 unfold foldW
 rw [List.foldl_cons]
 simp only [Bool.true_and, hb]
theorem foldW_ind {Q : List En → Prop} {f : List En → En → List En × Bool} {mk : Int × Int → En} : ∀ (ss : List (Int × Int)) (l : List En), Q l → (∀ p ∈ ss, ∀ l, Q l → (f l (mk p)).2 = true → Q (f l (mk p)).1) → (foldW f mk ss l).2 = true → Q (foldW f mk ss l).1
 | [], l, h, _, _ => h
 | p :: ss, l, h, hq, hf => by
  obtain ⟨h1, h2⟩ := foldW_cons hf
  rw [h2] at hf ⊢
  exact foldW_ind ss _ (hq p (by simp) l h h1) (fun q hq' => hq q (by simp [hq'])) hf
theorem recE_ok {wk ws we k t v d : Int} {q : Int × Int} (hw : wok wk ws we) (ht : -1099511627776 ≤ t ∧ t ≤ 1099511627776) (hq : q.2 = q.1 + ws ∧ q.1 ≤ t ∧ t < q.2) : enok (recE k v d q.1 q.2) = true := by
 have hw1 := hw.1
 refine enok_parts.2 ⟨recE_R (by omega), ?_⟩
 have e1 : (recE k v d q.1 q.2).s = q.1 := by unfold recE; rfl
 have e2 : (recE k v d q.1 q.2).e = q.2 := by unfold recE; rfl
 have e3 : (recE k v d q.1 q.2).c1 + (recE k v d q.1 q.2).c2 = 1 := by unfold recE; split <;> simp [mkEn, accV, acc0]
 exact ⟨by omega, by omega, by omega⟩
/-- What an Add leaves. -/
theorem add_facts {l L : List En} {wk ws we rk rt rv side : Int} (h0 : enchk l = 0) (h : addE l wk ws we rk rt rv side = (L, 0)) :
  enchk L = 0 ∧ L.filter (fun y => y.k != rk) = l.filter (fun y => y.k != rk) ∧ ∃ x ∈ L, x.k = rk ∧ x.s ≤ rt ∧ rt < x.e := by
 obtain ⟨c1, c2, c3⟩ := enchk_zero.1 h0
 have hR : ∀ y ∈ l, enw y := fun y hy => enR_w (enok_parts.1 (c2 y hy)).1
 unfold addE at h
 rw [if_neg (by simp [h0])] at h
 by_cases hw : wok wk ws we
 ·rw [if_neg (by simp [hw])] at h
  by_cases hs : side < 0 ∨ 1 < side
  ·rw [if_pos hs] at h; injection h with _ h; omega
  ·rw [if_neg hs] at h
   by_cases ht : rt < -1099511627776 ∨ 1099511627776 < rt
   ·rw [if_pos ht] at h; injection h with _ h; omega
   ·rw [if_neg ht] at h
    have hw1 := hw.1
    have t1 : -1099511627776 ≤ rt := by omega
    have t2 : rt ≤ 1099511627776 := by omega
    rw [givE_put c3 hR (fun p hp => enR_w (recE_R hp)) (fun _ => (wspans_ok hw t1 t2).1)] at h
    by_cases hk : wk = 3
    ·rw [if_pos hk] at h
     simp only at h
     by_cases hf : ((putE true l (recE rk rv side rt (rt + ws))).2 && decide ((putE true l (recE rk rv side rt (rt + ws))).1.length ≤ 4000)) = true
     ·rw [if_pos hf] at h
      injection h with h _
      subst h
      simp only [Bool.and_eq_true, decide_eq_true_eq] at hf
      have hx : enw (recE rk rv side rt (rt + ws)) := enR_w (recE_R (by omega))
      have hok := recE_ok (k := rk) (v := rv) (d := side) (q := (rt, rt + ws)) hw ⟨t1, t2⟩ ⟨rfl, by simp, by simp; omega⟩
      refine ⟨enchk_zero.2 ⟨hf.2, put_ok hok c2 hf.1, (putE_ss c3).1⟩, put_other c3 hx hR, ?_⟩
      obtain ⟨z, hz, z1, z2, z3⟩ := put_has (sess := true) hx hR
      exact ⟨z, hz, z1, z2, by have : (recE rk rv side rt (rt + ws)).e = rt + ws := rfl; omega⟩
     ·rw [if_neg hf] at h; injection h with _ h; omega
    ·rw [if_neg hk] at h
     simp only at h
     by_cases hf : ((foldW (putE false) (fun p => recE rk rv side p.1 p.2) (wspans wk ws we rt) l).2 && decide ((foldW (putE false) (fun p => recE rk rv side p.1 p.2) (wspans wk ws we rt) l).1.length ≤ 4000)) = true
     ·rw [if_pos hf] at h
      injection h with h _
      subst h
      simp only [Bool.and_eq_true, decide_eq_true_eq] at hf
      have hsp : ∀ p ∈ wspans wk ws we rt, p.2 = p.1 + ws ∧ p.1 ≤ rt ∧ rt < p.2 := fun p hp => by
       have := (mem_wspans hw hk t1 t2 p).1 hp
       omega
      let Q : List En → Prop := fun a => SS a ∧ (∀ y ∈ a, enok y = true) ∧ a.filter (fun y => y.k != rk) = l.filter (fun y => y.k != rk)
      have hstep : ∀ p ∈ wspans wk ws we rt, ∀ a, Q a → (putE false a (recE rk rv side p.1 p.2)).2 = true → Q (putE false a (recE rk rv side p.1 p.2)).1 := fun p hp a ha hfl => by
       obtain ⟨a1, a2, a3⟩ := ha
       have hpp := hsp p hp
       have hx : enw (recE rk rv side p.1 p.2) := enR_w (recE_R (by omega))
       have hw2 : ∀ y ∈ a, enw y := fun y hy => enR_w (enok_parts.1 (a2 y hy)).1
       exact ⟨(putE_ss a1).1, put_ok (recE_ok hw ⟨t1, t2⟩ hpp) a2 hfl, (put_other a1 hx hw2).trans a3⟩
      have hQ0 : Q l := ⟨c3, c2, rfl⟩
      have hQ := foldW_ind (Q := Q) _ l hQ0 hstep hf.1
      refine ⟨enchk_zero.2 ⟨hf.2, hQ.2.1, hQ.1⟩, hQ.2.2, ?_⟩
      have hne : wspans wk ws we rt ≠ [] := by
       unfold wspans
       by_cases h1 : wk = 1
       ·rw [if_pos h1]; simp
       ·rw [if_neg h1]
        have h2 : wk = 2 ∧ 1 ≤ we ∧ we ≤ ws ∧ ws ≤ 16 * we := by have := hw.2; omega
        have hr : sright ws we := ⟨hw1.1, h2.2.1, hw1.2, h2.2.2.1, h2.2.2.2⟩
        intro hc
        have := swins_len (t := rt) hr
        rw [hc] at this
        have := (scount_facts (t := rt) hr).1
        simp at *
        omega
      obtain ⟨p, ss, hps⟩ := List.exists_cons_of_ne_nil hne
      rw [hps] at hf hsp hstep ⊢
      obtain ⟨f1, f2⟩ := foldW_cons hf.1
      rw [f2]
      have hf3 := hf.1
      rw [f2] at hf3
      have hpp := hsp p (by simp)
      let Q2 : List En → Prop := fun a => Q a ∧ ∃ x ∈ a, x.k = rk ∧ x.s = p.1 ∧ x.e = p.2
      have hw0 : ∀ a, Q a → ∀ y ∈ a, enw y := fun a ha y hy => enR_w (enok_parts.1 (ha.2.1 y hy)).1
      have hone : ∀ q ∈ p :: ss, ∀ a, Q a → ((∃ x ∈ a, x.k = rk ∧ x.s = p.1 ∧ x.e = p.2) ∨ q = p) → ∃ x ∈ (putE false a (recE rk rv side q.1 q.2)).1, x.k = rk ∧ x.s = p.1 ∧ x.e = p.2 := fun q hq a ha hor => by
       have hqq := hsp q hq
       have hx : enw (recE rk rv side q.1 q.2) := enR_w (recE_R (by omega))
       obtain ⟨r1, r2, r3⟩ : (recE rk rv side q.1 q.2).k = rk ∧ (recE rk rv side q.1 q.2).s = q.1 ∧ (recE rk rv side q.1 q.2).e = q.2 := ⟨rfl, rfl, rfl⟩
       rcases put_one ha.1 hx (hw0 a ha) with ⟨y, hy, hyx, hz⟩ | ⟨hno, hz⟩
       ·obtain ⟨y1, y2, y3⟩ := hyx
        have k1 : (enJ (recE rk rv side q.1 q.2) y).k = rk := rfl
        have k2 : (enJ (recE rk rv side q.1 q.2) y).s = q.1 := by show min (recE rk rv side q.1 q.2).s y.s = _; omega
        have k3 : (enJ (recE rk rv side q.1 q.2) y).e = q.2 := by show max (recE rk rv side q.1 q.2).e y.e = _; omega
        rcases hor with ⟨x, hx1, hx2, hx3, hx4⟩ | rfl
        ·by_cases hsx : sameW x (recE rk rv side q.1 q.2)
         ·obtain ⟨s1, s2, s3⟩ := hsx
          exact ⟨_, (hz _).2 (.inl rfl), k1, by omega, by omega⟩
         ·exact ⟨x, (hz _).2 (.inr ⟨hx1, hsx⟩), hx2, hx3, hx4⟩
        ·exact ⟨_, (hz _).2 (.inl rfl), k1, k2, k3⟩
       ·rcases hor with ⟨x, hx1, hx2, hx3, hx4⟩ | rfl
        ·exact ⟨x, (hz _).2 (.inr hx1), hx2, hx3, hx4⟩
        ·exact ⟨_, (hz _).2 (.inl rfl), r1, r2, r3⟩
      have hQ2 := foldW_ind (Q := Q2) ss _ ⟨hstep p (by simp) l hQ0 f1, hone p (by simp) l hQ0 (.inr rfl)⟩ (fun q hq a ha hfl => ⟨hstep q (by simp [hq]) a ha.1 hfl, hone q (by simp [hq]) a ha.1 (.inl ha.2)⟩) hf3
      obtain ⟨x, hx, x1, x2, x3⟩ := hQ2.2
      exact ⟨x, hx, x1, by omega, by omega⟩
     ·rw [if_neg hf] at h; injection h with _ h; omega
 ·rw [if_pos hw] at h; injection h with _ h; omega
/-- All records put in, one by one; none: one was not. -/
noncomputable def allE (wk ws we : Int) : List En → List Pt → Option (List En)
 | a, [] => some a
 | a, p :: P => if (addE a wk ws we p.k p.t p.v p.d).2 = 0 then allE wk ws we (addE a wk ws we p.k p.t p.v p.d).1 P else none
theorem allE_append (wk ws we : Int) : ∀ (P Q : List Pt) (a : List En), allE wk ws we a (P ++ Q) = (allE wk ws we a P).bind fun b => allE wk ws we b Q
 | [], Q, a => rfl
 | p :: P, Q, a => by
  simp only [List.cons_append, allE]
  split
  ·exact allE_append wk ws we P Q _
  ·rfl
def timesK (P : List Pt) (k : Int) : List Int := (P.filter (fun p => p.k == k)).map Pt.t
def spansK (a : List En) (k : Int) : List (Int × Int) := (a.filter (fun x => x.k == k)).map fun x => (x.s, x.e)
/-- A store of sessions holds, of each key, the sessions of its times, with what falls in each. -/
def InvS (g : Int) (P : List Pt) (a : List En) : Prop := SS a ∧ (∀ k, spansK a k = canon (stimes g (timesK P k))) ∧ ∀ x ∈ a, Rig P x
theorem cov_spansK {a : List En} {k z : Int} : Cov (spansK a k) z ↔ ∃ y ∈ a, y.k = k ∧ 2 * y.s < z ∧ z < 2 * y.e := by
 unfold Cov spansK
 constructor
 ·rintro ⟨s, hs, h⟩
  obtain ⟨y, hy, rfl⟩ := List.mem_map.1 hs
  obtain ⟨h1, h2⟩ := List.mem_filter.1 hy
  exact ⟨y, h1, by simpa using h2, h⟩
 ·rintro ⟨y, hy, hk, h⟩
  exact ⟨(y.s, y.e), List.mem_map.2 ⟨y, List.mem_filter.2 ⟨hy, by simpa using hk⟩, rfl⟩, h⟩
theorem timesK_snoc (P : List Pt) (p : Pt) (k : Int) : timesK (P ++ [p]) k = timesK P k ++ if p.k = k then [p.t] else [] := by
 unfold timesK
 rw [List.filter_append, List.map_append]
 by_cases h : p.k = k <;> simp [h]
theorem mem_timesK {P : List Pt} {k t : Int} : t ∈ timesK P k ↔ ∃ p ∈ P, p.k = k ∧ p.t = t := by
 unfold timesK
 rw [List.mem_map]
 constructor
 ·rintro ⟨p, hp, rfl⟩; obtain ⟨h1, h2⟩ := List.mem_filter.1 hp; exact ⟨p, h1, by simpa using h2, rfl⟩
 ·rintro ⟨p, hp, hk, rfl⟩; exact ⟨p, List.mem_filter.2 ⟨hp, by simpa using hk⟩, rfl⟩
/-- Entries in order that do not overlap: their spans follow each other. -/
theorem good_of_ss : ∀ {b : List En}, SS b → (∀ x ∈ b, x.s < x.e) → (∀ x ∈ b, ∀ y ∈ b, x = y ∨ x.e ≤ y.s ∨ y.e ≤ x.s) → Good (b.map fun x => (x.s, x.e))
 | [], _, _, _ => trivial
 | x :: b, hs, hw, hd => by
  have hg := good_of_ss (b := b) (List.Pairwise.of_cons hs) (fun y hy => hw y (by simp [hy])) (fun y hy z hz => hd y (by simp [hy]) z (by simp [hz]))
  refine ⟨hw x (by simp), fun s hs' => ?_, hg⟩
  obtain ⟨y, hy, rfl⟩ := List.mem_map.1 hs'
  have h1 := List.rel_of_pairwise_cons hs hy
  have h2 := hd x (by simp) y (by simp [hy])
  have h3 := hw x (by simp)
  have h4 := hw y (by simp [hy])
  rw [enlt_iff] at h1
  rcases h2 with rfl | h2 | h2
  ·omega
  ·exact h2
  ·omega
theorem meets_cov {l l1 : List En} {x x1 : En} (hm : Meets (hitE true) l x l1 x1) (hx : x.s < x.e) (hl : ∀ y ∈ l, y.s < y.e) : ∀ z, 2 * x1.s < z → z < 2 * x1.e → (2 * x.s < z ∧ z < 2 * x.e) ∨ ∃ y ∈ l, y.k = x.k ∧ 2 * y.s < z ∧ z < 2 * y.e := by
 induction hm with
 | done l x => intro z h1 h2; exact .inl ⟨h1, h2⟩
 | @step p q x y l' x' hh _ ih =>
  intro z h1 h2
  have hy := hl y (by simp)
  rw [hitE_sess hx hy] at hh
  simp only [decide_eq_true_eq] at hh
  have e1 : (enJ x y).s = min x.s y.s := rfl
  have e2 : (enJ x y).e = max x.e y.e := rfl
  have e3 : (enJ x y).k = x.k := rfl
  have hsub : ∀ w ∈ p ++ q, w ∈ p ++ y :: q := fun w hw => by
   rcases List.mem_append.1 hw with h | h
   ·exact List.mem_append_left _ h
   ·exact List.mem_append_right _ (List.mem_cons_of_mem _ h)
  rcases ih (by omega) (fun w hw => hl w (hsub w hw)) z h1 h2 with h | ⟨w, hw, hk, h⟩
  ·by_cases hxz : 2 * x.s < z ∧ z < 2 * x.e
   ·exact .inl hxz
   ·exact .inr ⟨y, by simp, hh.1, by omega⟩
  ·exact .inr ⟨w, hsub w hw, hk.trans e3, h⟩
/-- What is taken in, one by one, of records that lie apart. -/
theorem fold_acc {P : List Pt} : ∀ (ys : List En) (x : En), enw x → (∀ y ∈ ys, Rig P y) → (∀ y ∈ ys, enw y) → ys.Pairwise (fun y y' => ∀ r ∈ P, inE y r = true → inE y' r = false) →
  (ys.foldl enJ x).a = aboth x.a (accP (fun r => ys.any fun y => sideE 0 y r) P) ∧ (ys.foldl enJ x).b = aboth x.b (accP (fun r => ys.any fun y => sideE 1 y r) P)
 | [], x, hx, _, _, _ => by
  have e : ∀ d, accP (fun r => ([] : List En).any fun y => sideE d y r) P = acc0 := fun d => accP_none (fun _ _ => rfl)
  rw [e, e, aboth_0r hx.2.1, aboth_0r hx.2.2]
  exact ⟨rfl, rfl⟩
 | y :: ys, x, hx, hr, hw, hp => by
  have hy := hr y (by simp)
  have hyw := hw y (by simp)
  obtain ⟨i1, i2⟩ := fold_acc ys (enJ x y) (enw_J hx hyw) (fun z hz => hr z (by simp [hz])) (fun z hz => hw z (by simp [hz])) (List.Pairwise.of_cons hp)
  have hor : ∀ d, accP (fun r => (y :: ys).any fun y => sideE d y r) P = aboth (accP (sideE d y) P) (accP (fun r => ys.any fun y => sideE d y r) P) := fun d => by
   rw [← accP_or (q := sideE d y) (r := fun r => ys.any fun y => sideE d y r)]
   ·rfl
   ·intro r hrP h1
    unfold sideE at h1
    simp only [Bool.and_eq_true] at h1
    rw [List.any_eq_false]
    intro z hz hc
    have := List.rel_of_pairwise_cons hp hz r hrP h1.1
    unfold sideE at hc
    rw [this] at hc
    simp at hc
  have w0 : ∀ d, (accP (fun r => ys.any fun y => sideE d y r) P).wk := fun d => accP_wk _ _
  simp only [List.foldl_cons]
  rw [i1, i2, hor, hor, enJ_a, enJ_b, both_assoc hx.2.1 hyw.2.1 (w0 0), both_assoc hx.2.2 hyw.2.2 (w0 1), hy.1, hy.2]
  exact ⟨rfl, rfl⟩
theorem InvS.lt {g : Int} {P : List Pt} {a : List En} (h : InvS g P a) (hg : 1 ≤ g) : ∀ y ∈ a, y.s < y.e := fun y hy => by
 have hG : Good (spansK a y.k) := by rw [h.2.1]; exact (canon_good (stimes_ok hg)).1
 exact good_mem hG (y.s, y.e) (List.mem_map.2 ⟨y, List.mem_filter.2 ⟨hy, by simp⟩, rfl⟩)
theorem InvS.w {g : Int} {P : List Pt} {a : List En} (h : InvS g P a) (hg : 1 ≤ g) : ∀ y ∈ a, enw y := fun y hy => ⟨h.lt hg y hy, (h.2.2 y hy).wk⟩
theorem InvS.apart {g : Int} {P : List Pt} {a : List En} (h : InvS g P a) (hg : 1 ≤ g) : ∀ x ∈ a, ∀ y ∈ a, x.k = y.k → x = y ∨ x.e ≤ y.s ∨ y.e ≤ x.s := fun x hx y hy hk => by
 have hG : Good (spansK a y.k) := by rw [h.2.1]; exact (canon_good (stimes_ok hg)).1
 rcases good_two hG (x.s, x.e) (List.mem_map.2 ⟨x, List.mem_filter.2 ⟨hx, by simp [hk]⟩, rfl⟩) (y.s, y.e) (List.mem_map.2 ⟨y, List.mem_filter.2 ⟨hy, by simp⟩, rfl⟩) with h1 | h1
 ·left
  simp only [Prod.mk.injEq] at h1
  exact ss_one h.1 hx hy ⟨hk, h1.1, h1.2⟩
 ·exact .inr h1
theorem InvS.holds {g : Int} {P : List Pt} {a : List En} (h : InvS g P a) (hg : 1 ≤ g) {r : Pt} (hr : r ∈ P) : ∃ y ∈ a, inE y r = true := by
 have hc : Cov (stimes g (timesK P r.k)) (2 * r.t + 1) := cov_times.2 ⟨r.t, mem_timesK.2 ⟨r, hr, rfl, rfl⟩, by omega, by omega⟩
 rw [← (canon_good (stimes_ok hg)).2, ← h.2.1] at hc
 obtain ⟨y, hy, hk, h1, h2⟩ := cov_spansK.1 hc
 refine ⟨y, hy, ?_⟩
 unfold inE
 simp only [decide_eq_true_eq]
 omega
theorem invS_step {g : Int} {P : List Pt} {p : Pt} {a : List En} (h : InvS g P a) (hg : 1 ≤ g) (hp : p.d = 0 ∨ p.d = 1) : InvS g (P ++ [p]) (putE true a (recP p (p.t, p.t + g))).1 := by
 have hw := h.w hg
 have hlt := h.lt hg
 obtain ⟨r1, r2, r3, r4, r5⟩ := recP_f p (p.t, p.t + g)
 have hx : enw (recP p (p.t, p.t + g)) := recP_w (by simp; omega)
 have hm := absorb_meets (hitE true) a.length a (recP p (p.t, p.t + g))
 have he := absorb_ended (hitE true) a.length a (recP p (p.t, p.t + g)) (Nat.le_refl _)
 obtain ⟨h1, ⟨ys, h2, h3⟩, h4, h5, h6, h7, _, h9⟩ := hm.ended hx hw he
 have hcov := meets_cov hm hx.1 hlt
 have hput : ∀ z, z ∈ (putE true a (recP p (p.t, p.t + g))).1 ↔ z = (absorb (hitE true) a.length a (recP p (p.t, p.t + g))).2 ∨ z ∈ (absorb (hitE true) a.length a (recP p (p.t, p.t + g))).1 := fun z => put_mem
 have hoth := put_other (sess := true) h.1 hx hw
 have hss : SS (putE true a (recP p (p.t, p.t + g))).1 := (putE_ss h.1).1
 obtain ⟨x', hx'⟩ : ∃ x', x' = (absorb (hitE true) a.length a (recP p (p.t, p.t + g))).2 := ⟨_, rfl⟩
 obtain ⟨b, hb⟩ : ∃ b, b = (putE true a (recP p (p.t, p.t + g))).1 := ⟨_, rfl⟩
 rw [h1, ← hx'] at hput
 rw [← hx'] at h2 h3 h4 h5 h6 h7 h9 hcov
 rw [← hb] at hput hoth hss ⊢
 rw [r2] at h6
 rw [r3] at h7
 rw [r1] at h5 hoth
 simp only at h6 h7
 clear hm he h1 hx' hb
 have hhit : ∀ y ∈ a, hitE true x' y = true ↔ (y.k = p.k ∧ y.s < x'.e ∧ x'.s < y.e) := fun y hy => by
  rw [hitE_sess h4.1 (hlt y hy), decide_eq_true_iff, h5]
 have hmem : ∀ z, z ∈ b ↔ z = x' ∨ (z ∈ a ∧ ¬ (z.k = p.k ∧ z.s < x'.e ∧ x'.s < z.e)) := fun z => by
  rw [hput, List.mem_filter]
  constructor
  ·rintro (h | ⟨h, hn⟩)
   ·exact .inl h
   ·refine .inr ⟨h, fun hc => ?_⟩
    rw [(hhit z h).2 hc] at hn
    cases hn
  ·rintro (h | ⟨h, hn⟩)
   ·exact .inl h
   ·refine .inr ⟨h, ?_⟩
    cases hq : hitE true x' z with
    | false => rfl
    | true => exact absurd ((hhit z h).1 hq) hn
 refine ⟨hss, fun k => ?_, fun z hz => ?_⟩
 ·by_cases hk : k = p.k
  ·subst hk
   have hG : Good (spansK b p.k) := by
    refine good_of_ss (ss_sub hss List.filter_sublist) (fun y hy => ?_) (fun y hy z hz => ?_)
    ·rcases (hmem y).1 (List.mem_filter.1 hy).1 with rfl | ⟨h', _⟩
     ·exact h4.1
     ·exact hlt y h'
    ·obtain ⟨hy1, hy2⟩ := List.mem_filter.1 hy
     obtain ⟨hz1, hz2⟩ := List.mem_filter.1 hz
     have hy2 : y.k = p.k := by simpa using hy2
     have hz2 : z.k = p.k := by simpa using hz2
     rcases (hmem y).1 hy1 with rfl | ⟨ya, yn⟩ <;> rcases (hmem z).1 hz1 with rfl | ⟨za, zn⟩
     ·exact .inl rfl
     ·right; omega
     ·right; omega
     ·exact h.apart hg y ya z za (by omega)
   refine good_unique hG (canon_good (stimes_ok hg)).1 (fun z => ?_)
   rw [(canon_good (stimes_ok hg)).2, timesK_snoc, if_pos rfl]
   have e1 : stimes g (timesK P p.k ++ [p.t]) = stimes g (timesK P p.k) ++ [(p.t, p.t + g)] := by simp [stimes]
   rw [e1, cov_append, ← (canon_good (stimes_ok hg)).2, ← h.2.1, cov_spansK, cov_spansK]
   have e2 : Cov [(p.t, p.t + g)] z ↔ 2 * p.t < z ∧ z < 2 * (p.t + g) := by
    unfold Cov
    simp
   rw [e2]
   constructor
   ·rintro ⟨y, hy, hk, hz⟩
    rcases (hmem y).1 hy with rfl | ⟨hya, _⟩
    ·rcases hcov z hz.1 hz.2 with hc | ⟨w, hw1, hw2, hw3⟩
     ·rw [r2, r3] at hc
      exact .inr hc
     ·exact .inl ⟨w, hw1, hw2.trans r1, hw3⟩
    ·exact .inl ⟨y, hya, hk, hz⟩
   ·rintro (⟨y, hy, hk, hz⟩ | hz)
    ·by_cases hq : y.k = p.k ∧ y.s < x'.e ∧ x'.s < y.e
     ·have := h9 y hy ((hhit y hy).2 hq)
      exact ⟨x', (hmem _).2 (.inl rfl), h5, by omega, by omega⟩
     ·exact ⟨y, (hmem _).2 (.inr ⟨hy, hq⟩), hk, hz⟩
    ·exact ⟨x', (hmem _).2 (.inl rfl), h5, by omega, by omega⟩
  ·have e1 : ∀ c : List En, c.filter (fun x => x.k == k) = (c.filter (fun y => y.k != p.k)).filter (fun x => x.k == k) := fun c => by
    rw [List.filter_filter]
    refine List.filter_congr (fun y _ => ?_)
    by_cases hy : y.k = k
    ·simp [hy, hk]
    ·simp [hy]
   have e2 : spansK b k = spansK a k := by unfold spansK; rw [e1 b, e1 a, hoth]
   rw [e2, h.2.1, timesK_snoc, if_neg (fun e => hk e.symm), List.append_nil]
 ·rcases (hmem z).1 hz with rfl | ⟨hza, hzn⟩
  ·have hysf : ∀ y ∈ ys, y ∈ a ∧ y.k = p.k ∧ z.s ≤ y.s ∧ y.e ≤ z.e := fun y hy => by
    obtain ⟨ya, yh⟩ := List.mem_filter.1 (h2.mem_iff.1 hy)
    have := h9 y ya yh
    exact ⟨ya, ((hhit y ya).1 yh).1, this⟩
   have hpw : ys.Pairwise (fun y y' => ∀ r ∈ P, inE y r = true → inE y' r = false) := by
    have hq : (a.filter (hitE true z)).Pairwise (fun y y' => ∀ r ∈ P, (inE y r = true → inE y' r = false) ∧ (inE y' r = true → inE y r = false)) := by
     have hne : (a.filter (hitE true z)).Pairwise (· ≠ ·) := ss_nodup (ss_sub h.1 List.filter_sublist)
     refine List.Pairwise.imp_of_mem (fun {y y'} hy hy' hne r _ => ?_) hne
     obtain ⟨ya, yh⟩ := List.mem_filter.1 hy
     obtain ⟨ya', yh'⟩ := List.mem_filter.1 hy'
     have k1 := ((hhit y ya).1 yh).1
     have k2 := ((hhit y' ya').1 yh').1
     have hd := h.apart hg y ya y' ya' (k1.trans k2.symm)
     unfold inE
     rcases hd with hd | hd
     ·exact absurd hd hne
     ·constructor
      ·intro h'; simp only [decide_eq_true_eq] at h'; rw [decide_eq_false_iff_not]; omega
      ·intro h'; simp only [decide_eq_true_eq] at h'; rw [decide_eq_false_iff_not]; omega
    have := (h2.symm.pairwise_iff (fun {y y'} hh r hr => ⟨(hh r hr).2, (hh r hr).1⟩)).1 hq
    exact this.imp (fun {y y'} hh r hr => (hh r hr).1)
   obtain ⟨f1, f2⟩ := fold_acc ys (recP p (p.t, p.t + g)) hx (fun y hy => h.2.2 y (hysf y hy).1) (fun y hy => hw y (hysf y hy).1) hpw
   rw [← h3] at f1 f2
   have hcg : ∀ d, accP (fun r => ys.any fun y => sideE d y r) P = accP (sideE d z) P := fun d => accP_congr (fun r hr => by
    rw [Bool.eq_iff_iff, List.any_eq_true]
    constructor
    ·rintro ⟨y, hy, hh⟩
     obtain ⟨ya, yk, y1, y2⟩ := hysf y hy
     unfold sideE inE at hh ⊢
     simp only [Bool.and_eq_true, decide_eq_true_eq] at hh ⊢
     omega
    ·intro hh
     obtain ⟨y, hy, hin⟩ := h.holds hg hr
     have hin0 := hin
     unfold inE at hin
     unfold sideE inE at hh
     simp only [Bool.and_eq_true, decide_eq_true_eq] at hh hin
     have yh : hitE true z y = true := (hhit y hy).2 ⟨by omega, by omega, by omega⟩
     refine ⟨y, h2.mem_iff.2 (List.mem_filter.2 ⟨hy, yh⟩), ?_⟩
     unfold sideE
     rw [hin0]
     simp [hh.2])
   rw [hcg, r4] at f1
   rw [hcg, r5] at f2
   have hin : inE z p = true := by unfold inE; simp only [decide_eq_true_eq]; omega
   unfold Rig
   rw [accP_snoc, accP_snoc, f1, f2]
   rcases hp with h0 | h0
   ·have s0 : sideE 0 z p = true := by simp [sideE, hin, h0]
    have s1 : sideE 1 z p = false := by simp [sideE, h0]
    rw [s0, s1, if_pos h0, if_pos h0]
    exact ⟨by rw [if_pos rfl, both_comm (accV_wk _) (accP_wk _ _)], by rw [if_neg (by simp), aboth_0l]⟩
   ·have s0 : sideE 0 z p = false := by simp [sideE, h0]
    have s1 : sideE 1 z p = true := by simp [sideE, hin, h0]
    have hn0 : ¬ p.d = 0 := by omega
    simp only [s0, s1, if_neg hn0]
    exact ⟨by rw [if_neg (by simp), aboth_0l], by rw [if_pos (by simp), both_comm (accV_wk _) (accP_wk _ _)]⟩
  ·refine (Rig.far ?_).2 (h.2.2 z hza)
   unfold inE
   rw [decide_eq_false_iff_not]
   rintro ⟨e1, e2, e3⟩
   exact hzn ⟨e1.symm, by omega, by omega⟩
def InvA (wk ws we : Int) (P : List Pt) (a : List En) : Prop := if wk = 3 then InvS ws P a else InvN wk ws we P a
def winP (wk ws we : Int) (P : List Pt) (k : Int) (sp : Int × Int) : Prop := if wk = 3 then sp ∈ canon (stimes ws (timesK P k)) else winN wk ws we P k sp
theorem inv_ss {wk ws we : Int} {P : List Pt} {a : List En} (h : InvA wk ws we P a) : SS a := by
 unfold InvA at h
 split at h
 ·exact h.1
 ·exact h.1
theorem inv_mem {wk ws we : Int} {P : List Pt} {a : List En} (h : InvA wk ws we P a) (x : En) : x ∈ a ↔ winP wk ws we P x.k (x.s, x.e) ∧ Rig P x := by
 unfold InvA at h
 unfold winP
 by_cases hk : wk = 3
 ·rw [if_pos hk] at h ⊢
  rw [← h.2.1]
  constructor
  ·intro hx
   exact ⟨List.mem_map.2 ⟨x, List.mem_filter.2 ⟨hx, by simp⟩, rfl⟩, h.2.2 x hx⟩
  ·rintro ⟨h1, h2⟩
   obtain ⟨y, hy, hs⟩ := List.mem_map.1 h1
   obtain ⟨hy1, hy2⟩ := List.mem_filter.1 hy
   have hy2 : y.k = x.k := by simpa using hy2
   simp only [Prod.mk.injEq] at hs
   rw [h2.unique (h.2.2 y hy1) hy2.symm hs.1.symm hs.2.symm]
   exact hy1
 ·rw [if_neg hk] at h ⊢
  exact h.2 x
theorem win_perm {wk ws we : Int} {P Q : List Pt} (hw : 1 ≤ ws) (hp : P.Perm Q) (k : Int) (sp : Int × Int) : winP wk ws we P k sp ↔ winP wk ws we Q k sp := by
 unfold winP
 split
 ·have e : canon (stimes ws (timesK P k)) = canon (stimes ws (timesK Q k)) := by
   refine canon_cov (stimes_ok hw) (stimes_ok hw) (fun z => ?_)
   rw [cov_times, cov_times]
   constructor
   ·rintro ⟨t, ht, h⟩
    obtain ⟨p, hp', h1, h2⟩ := mem_timesK.1 ht
    exact ⟨t, mem_timesK.2 ⟨p, hp.mem_iff.1 hp', h1, h2⟩, h⟩
   ·rintro ⟨t, ht, h⟩
    obtain ⟨p, hp', h1, h2⟩ := mem_timesK.1 ht
    exact ⟨t, mem_timesK.2 ⟨p, hp.mem_iff.2 hp', h1, h2⟩, h⟩
  rw [e]
 ·constructor
  ·rintro ⟨r, hr, h⟩; exact ⟨r, hp.mem_iff.1 hr, h⟩
  ·rintro ⟨r, hr, h⟩; exact ⟨r, hp.mem_iff.2 hr, h⟩
/-- What a store holds does not hang on the records' order. -/
theorem inv_unique {wk ws we : Int} {P Q : List Pt} {a b : List En} (hw : 1 ≤ ws) (hp : P.Perm Q) (ha : InvA wk ws we P a) (hb : InvA wk ws we Q b) : a = b := by
 refine ss_ext (inv_ss ha) (inv_ss hb) (fun x => ?_)
 rw [inv_mem ha, inv_mem hb, win_perm hw hp]
 exact ⟨fun h => ⟨h.1, h.2.perm hp⟩, fun h => ⟨h.1, h.2.perm hp.symm⟩⟩
theorem inv_nil (wk ws we : Int) : InvA wk ws we [] [] := by
 unfold InvA
 split
 ·refine ⟨List.Pairwise.nil, fun k => ?_, by simp⟩
  have h := canon_len (stimes ws (timesK [] k))
  have e : stimes ws (timesK [] k) = [] := rfl
  rw [e] at h ⊢
  exact (List.eq_nil_of_length_eq_zero (by simpa using h)).symm
 ·refine ⟨List.Pairwise.nil, fun x => ?_⟩
  simp [winN]
/-- What a record put in leaves. -/
def rawput (wk ws we : Int) (a : List En) (p : Pt) : List En := if wk = 3 then (putE true a (recP p (p.t, p.t + ws))).1 else (foldW (putE false) (recP p) (wspans wk ws we p.t) a).1
def nW (wk ws we : Int) (p : Pt) : Nat := if wk = 3 then 1 else (wspans wk ws we p.t).length
def sumW (wk ws we : Int) (P : List Pt) : Nat := (P.map (nW wk ws we)).sum
theorem inv_step {wk ws we : Int} {P : List Pt} {p : Pt} {a : List En} (h : InvA wk ws we P a) (hw : wok wk ws we) (hP : ∀ r ∈ P, okP r) (hp : okP p) : InvA wk ws we (P ++ [p]) (rawput wk ws we a p) := by
 unfold InvA rawput at *
 by_cases hk : wk = 3
 ·rw [if_pos hk] at h ⊢
  rw [if_pos hk]
  exact invS_step h hw.1.1 hp.2
 ·rw [if_neg hk] at h ⊢
  rw [if_neg hk]
  exact inv_fold h hw hk hP hp
theorem inv_w {wk ws we : Int} {P : List Pt} {a : List En} (h : InvA wk ws we P a) (hw : wok wk ws we) (hP : ∀ r ∈ P, okP r) : ∀ y ∈ a, enw y := by
 have h0 := h
 unfold InvA at h
 by_cases hk : wk = 3
 ·rw [if_pos hk] at h
  exact h.w hw.1.1
 ·rw [if_neg hk] at h
  intro y hy
  obtain ⟨⟨r, hr, _, h1⟩, h2⟩ := (h.2 y).1 hy
  have := (mem_wspans hw hk (hP r hr).1.1 (hP r hr).1.2 _).1 h1
  have hw1 := hw.1
  exact ⟨by simp only at this; omega, h2.wk⟩
theorem put_tot {sess : Bool} {l : List En} {x : En} (hs : SS l) (hx : enw x) (hl : ∀ y ∈ l, enw y) (ht : tot1 l + x.c1 ≤ 1073741824 ∧ tot2 l + x.c2 ≤ 1073741824) :
  (putE sess l x).2 = true ∧ tot1 (putE sess l x).1 = tot1 l + x.c1 ∧ tot2 (putE sess l x).1 = tot2 l + x.c2 ∧ (putE sess l x).1.length ≤ l.length + 1 := by
 have hp := (putE_ss (sess := sess) (x := x) hs).2
 have ht2 := tot_perm hp
 have hw := withE_tot (sess := sess) hx hl
 have hle := meets_le hx hl (absorb_meets (hitE sess) l.length l x)
 refine ⟨?_, by rw [ht2.1, hw.1], by rw [ht2.2, hw.2.1], by rw [hp.length_eq]; exact hw.2.2⟩
 show fitE _ = true
 unfold fitE
 simp only [decide_eq_true_eq]
 omega
theorem recE_one (k v d s e : Int) : (recE k v d s e).c1 + (recE k v d s e).c2 = 1 := by unfold recE; split <;> simp [mkEn, accV, acc0]
theorem fold_tot {p : Pt} : ∀ (ss : List (Int × Int)) (l : List En), SS l → (∀ y ∈ l, enw y) → (∀ q ∈ ss, q.1 < q.2) → tot1 l + ss.length ≤ 1073741824 → tot2 l + ss.length ≤ 1073741824 →
  (foldW (putE false) (recP p) ss l).2 = true ∧ tot1 (foldW (putE false) (recP p) ss l).1 + tot2 (foldW (putE false) (recP p) ss l).1 = tot1 l + tot2 l + ss.length ∧ (foldW (putE false) (recP p) ss l).1.length ≤ l.length + ss.length
 | [], l, _, _, _, _, _ => ⟨rfl, by simp [foldW], by simp [foldW]⟩
 | q :: ss, l, hs, hl, hq, h1, h2 => by
  have hqq := hq q (by simp)
  have hx : enw (recP p q) := recP_w hqq
  have hc := recE_c p.k p.v p.d q.1 q.2
  have hone := recE_one p.k p.v p.d q.1 q.2
  change (0 ≤ (recP p q).c1 ∧ (recP p q).c1 ≤ 1 ∧ 0 ≤ (recP p q).c2 ∧ (recP p q).c2 ≤ 1) at hc
  change (recP p q).c1 + (recP p q).c2 = 1 at hone
  simp only [List.length_cons, Int.natCast_add, Int.natCast_one] at h1 h2
  obtain ⟨p1, p2, p3, p4⟩ := put_tot (sess := false) hs hx hl (by omega)
  have hl' : ∀ y ∈ (putE false l (recP p q)).1, enw y := fun y hy => withE_w hx hl y ((putE_ss hs).2.mem_iff.1 hy)
  obtain ⟨i1, i2, i3⟩ := fold_tot ss (putE false l (recP p q)).1 (putE_ss hs).1 hl' (fun r hr => hq r (by simp [hr])) (by omega) (by omega)
  have e : foldW (putE false) (recP p) (q :: ss) l = foldW (putE false) (recP p) ss (putE false l (recP p q)).1 := by
   unfold foldW
   rw [List.foldl_cons]
   simp only [Bool.true_and, p1]
  rw [e]
  exact ⟨i1, by rw [i2, p2, p3]; simp only [List.length_cons, Int.natCast_add, Int.natCast_one]; omega, by simp only [List.length_cons]; omega⟩
theorem add_put {wk ws we : Int} {a : List En} {p : Pt} (h : enchk a = 0) (hw : wok wk ws we) (hp : okP p) (h1 : tot1 a ≤ 1000000) (h2 : tot2 a ≤ 1000000) (h3 : a.length + 16 ≤ 4000) :
  addE a wk ws we p.k p.t p.v p.d = (rawput wk ws we a p, 0) ∧ tot1 (rawput wk ws we a p) + tot2 (rawput wk ws we a p) = tot1 a + tot2 a + nW wk ws we p ∧ (rawput wk ws we a p).length ≤ a.length + nW wk ws we p := by
 obtain ⟨c1, c2, c3⟩ := enchk_zero.1 h
 have hR : ∀ y ∈ a, enw y := fun y hy => enR_w (enok_parts.1 (c2 y hy)).1
 obtain ⟨⟨t1, t2⟩, hd⟩ := hp
 have hw1 := hw.1
 unfold addE
 rw [if_neg (by simp [h]), if_neg (by simp [hw]), if_neg (by omega), if_neg (by omega), givE_put c3 hR (fun q hq => enR_w (recE_R hq)) (fun _ => (wspans_ok hw t1 t2).1)]
 unfold rawput nW
 by_cases hk : wk = 3
 ·rw [if_pos hk, if_pos hk, if_pos hk]
  have hx : enw (recP p (p.t, p.t + ws)) := recP_w (by simp; omega)
  have hc := recE_c p.k p.v p.d p.t (p.t + ws)
  have hone := recE_one p.k p.v p.d p.t (p.t + ws)
  change (0 ≤ (recP p (p.t, p.t + ws)).c1 ∧ (recP p (p.t, p.t + ws)).c1 ≤ 1 ∧ 0 ≤ (recP p (p.t, p.t + ws)).c2 ∧ (recP p (p.t, p.t + ws)).c2 ≤ 1) at hc
  change (recP p (p.t, p.t + ws)).c1 + (recP p (p.t, p.t + ws)).c2 = 1 at hone
  obtain ⟨p1, p2, p3, p4⟩ := put_tot (sess := true) c3 hx hR (by omega)
  have e : recE p.k p.v p.d p.t (p.t + ws) = recP p (p.t, p.t + ws) := rfl
  rw [e]
  simp only
  rw [if_pos (by simp only [p1, Bool.true_and, decide_eq_true_eq]; omega)]
  exact ⟨rfl, by rw [p2, p3]; simp only [Int.natCast_one]; omega, p4⟩
 ·rw [if_neg hk, if_neg hk, if_neg hk]
  have h16 := wspans_16 (t := p.t) hw hk
  obtain ⟨p1, p2, p3⟩ := fold_tot (p := p) (wspans wk ws we p.t) a c3 hR (wspans_ok hw t1 t2).1 (by omega) (by omega)
  have e : (fun q : Int × Int => recE p.k p.v p.d q.1 q.2) = recP p := rfl
  rw [e]
  simp only
  rw [if_pos (by simp only [p1, Bool.true_and, decide_eq_true_eq]; omega)]
  exact ⟨rfl, p2, p3⟩
theorem nW_16 {wk ws we : Int} (hw : wok wk ws we) (p : Pt) : nW wk ws we p ≤ 16 := by
 unfold nW
 split
 ·omega
 ·rename_i hk; exact wspans_16 hw hk
theorem sumW_snoc (wk ws we : Int) (P : List Pt) (p : Pt) : sumW wk ws we (P ++ [p]) = sumW wk ws we P + nW wk ws we p := by simp [sumW]
theorem sumW_16 {wk ws we : Int} (hw : wok wk ws we) : ∀ (P : List Pt), sumW wk ws we P ≤ 16 * P.length
 | [] => by simp [sumW]
 | p :: P => by
  have := sumW_16 hw P
  have := nW_16 hw p
  unfold sumW at *
  simp only [List.map_cons, List.sum_cons, List.length_cons]
  omega
/-- All records put in. -/
theorem all_inv {wk ws we : Int} (hw : wok wk ws we) : ∀ (n : Nat) (P : List Pt), P.length = n → n ≤ 240 → (∀ p ∈ P, okP p) →
  ∃ a, allE wk ws we [] P = some a ∧ InvA wk ws we P a ∧ enchk a = 0 ∧ tot1 a + tot2 a = sumW wk ws we P ∧ a.length ≤ sumW wk ws we P
 | 0, P, hn, _, _ => by
  obtain rfl := List.eq_nil_of_length_eq_zero hn
  exact ⟨[], rfl, inv_nil _ _ _, enchk_zero.2 ⟨by simp, by simp, List.Pairwise.nil⟩, by simp [tot1, tot2, sumW], by simp⟩
 | n + 1, P, hn, h240, hok => by
  rcases List.eq_nil_or_concat P with rfl | ⟨Q, p, rfl⟩
  ·simp at hn
  ·rw [List.concat_eq_append] at hn hok ⊢
   have hQ : Q.length = n := by simpa using hn
   have hokQ : ∀ r ∈ Q, okP r := fun r hr => hok r (by simp [hr])
   have hokp : okP p := hok p (by simp)
   obtain ⟨a, a1, a2, a3, a4, a5⟩ := all_inv hw n Q hQ (by omega) hokQ
   have h16 := sumW_16 hw Q
   have hnn := tot_nonneg (inv_w a2 hw hokQ)
   obtain ⟨b1, b2, b3⟩ := add_put a3 hw hokp (by omega) (by omega) (by omega)
   refine ⟨rawput wk ws we a p, ?_, inv_step a2 hw hokQ hokp, (add_facts a3 b1).1, by rw [b2, a4, sumW_snoc]; simp, by rw [sumW_snoc]; omega⟩
   rw [allE_append, a1]
   show allE wk ws we a [p] = _
   have e : allE wk ws we a [p] = if (addE a wk ws we p.k p.t p.v p.d).2 = 0 then allE wk ws we (addE a wk ws we p.k p.t p.v p.d).1 [] else none := rfl
   rw [e, b1, if_pos rfl]
   rfl
theorem putsF_pre (q : Qy) (ls : List (List Evt)) (i k : Nat) : putsF q i (ls.take k) <+: putsF q i ls := by
 induction ls generalizing i k with
 | nil => simp [putsF]
 | cons l ls ih =>
  cases k with
  | zero => simp [putsF]
  | succ k =>
   simp only [List.take_succ_cons, putsF]
   exact List.prefix_append_right_inj _ |>.2 (ih (i + 1) k)
/-- What is put in of the lists ahead, and of the first records of one more. -/
def ppQ (q : Qy) (ls : List (List Evt)) (i : Nat) (R : List Pt) (j : Nat) : List Pt := putsF q 0 (ls.take i) ++ ((R.take j).filterMap (cntP q)).map (sideP (onS q i))
theorem pp_end {q : Qy} {ls : List (List Evt)} {i : Nat} {l : List Evt} (h : ls[i]? = some l) : ppQ q ls i (rightL low64 l) (rightL low64 l).length = putsF q 0 (ls.take (i + 1)) := by
 have hi := (List.getElem?_eq_some_iff.1 h).1
 unfold ppQ
 rw [List.take_length, List.take_add_one, h, Option.toList, putsF_snoc, Nat.zero_add, List.length_take, Nat.min_eq_left (Nat.le_of_lt hi)]
theorem pp_pre {q : Qy} {ls : List (List Evt)} {i : Nat} {l : List Evt} (h : ls[i]? = some l) (j : Nat) : ppQ q ls i (rightL low64 l) j <+: putsQ q ls := by
 refine List.IsPrefix.trans ?_ (putsF_pre q ls 0 (i + 1))
 rw [← pp_end h]
 unfold ppQ
 refine (List.prefix_append_right_inj _).2 ?_
 refine List.IsPrefix.map _ ?_
 refine List.IsPrefix.filterMap _ ?_
 rw [List.take_length]
 exact List.take_prefix _ _
theorem pp_skip {q : Qy} {ls : List (List Evt)} {i j : Nat} {R : List Pt} {r : Pt} (h : R[j]? = some r) (hc : cntP q r = none) : ppQ q ls i R (j + 1) = ppQ q ls i R j := by
 unfold ppQ
 rw [List.take_add_one, h, Option.toList, List.filterMap_append]
 simp [hc]
theorem pp_take {q : Qy} {ls : List (List Evt)} {i j : Nat} {R : List Pt} {r x : Pt} (h : R[j]? = some r) (hc : cntP q r = some x) : ppQ q ls i R (j + 1) = ppQ q ls i R j ++ [sideP (onS q i) x] := by
 unfold ppQ
 rw [List.take_add_one, h, Option.toList, List.filterMap_append]
 simp [hc]
theorem add_of_pp {wk ws we : Int} {P : List Pt} {p : Pt} {a b : List En} (ha : allE wk ws we [] P = some a) (hb : allE wk ws we [] (P ++ [p]) = some b) : addE a wk ws we p.k p.t p.v p.d = (b, 0) := by
 rw [allE_append, ha] at hb
 have e : allE wk ws we a [p] = if (addE a wk ws we p.k p.t p.v p.d).2 = 0 then allE wk ws we (addE a wk ws we p.k p.t p.v p.d).1 [] else none := rfl
 have hb' : allE wk ws we a [p] = some b := hb
 rw [e] at hb'
 split at hb'
 ·rename_i h
  have h2 : (addE a wk ws we p.k p.t p.v p.d).1 = b := Option.some.inj hb'
  exact Prod.ext h2 h
 ·cases hb'
def optFo : Option Ex → Option Ex → Prop
 | none, none => True
 | some e, some e' => Fo e e'
 | _, _ => False
theorem optFo.some {e : Ex} {o : Option Ex} (h : optFo (some e) o) : ∃ e', o = some e' ∧ Fo e e' := by
 cases o with
 | none => exact h.elim
 | some e' => exact ⟨e', rfl, h⟩
theorem optFo.none {o : Option Ex} (h : optFo none o) : o = none := by
 cases o with
 | none => rfl
 | some e' => exact h.elim
theorem fold_ok {q : Qy} (h : q.good) {a w : Option Ex} (ha : optFo q.arg a) (hw : optFo q.wh w) : ({ q with arg := a, wh := w } : Qy).good ∧ Qeq q { q with arg := a, wh := w } := by
 have hna : a = none ↔ q.arg = none := by
  cases hq : q.arg with
  | none => rw [hq] at ha; simp [ha.none]
  | some e => rw [hq] at ha; obtain ⟨e', rfl, _⟩ := ha.some; simp
 refine ⟨⟨h.ag, h.la, h.cnt.trans hna.symm, fun e he => ?_, fun e he => ?_, h.src, h.two, h.win, h.tum⟩, ⟨rfl, rfl, rfl, rfl, rfl, hna, fun e e' h1 h2 => ?_, fun r => ?_, .inl ⟨rfl, rfl, rfl⟩⟩⟩
 ·cases hq : q.arg with
  | none => rw [hq] at ha; simp only at he; rw [ha.none] at he; cases he
  | some f =>
   rw [hq] at ha
   obtain ⟨e', rfl, hf⟩ := ha.some
   obtain rfl := Option.some.inj he
   obtain ⟨g1, g2, g3⟩ := h.arg f hq
   exact ⟨hf.const g1, hf.wt, hf.gv.trans g3⟩
 ·cases hq : q.wh with
  | none => rw [hq] at hw; simp only at he; rw [hw.none] at he; cases he
  | some f =>
   rw [hq] at hw
   obtain ⟨e', rfl, hf⟩ := hw.some
   obtain rfl := Option.some.inj he
   obtain ⟨g1, g2, g3⟩ := h.wh f hq
   exact ⟨hf.const g1, hf.wt, hf.gv.trans g3⟩
 ·rw [h1] at ha
  obtain ⟨f, rfl, hf⟩ := ha.some
  obtain rfl := Option.some.inj h2
  exact hf.ev
 ·cases hq : q.wh with
  | none => rw [hq] at hw; rw [hw.none]
  | some f =>
   rw [hq] at hw
   obtain ⟨e', rfl, hf⟩ := hw.some
   constructor
   ·rintro ⟨e, he, h0⟩
    obtain rfl := Option.some.inj he
    exact ⟨f, rfl, by rw [← hf.ev r]; exact h0⟩
   ·rintro ⟨e, he, h0⟩
    obtain rfl := Option.some.inj he
    exact ⟨e', rfl, by rw [hf.ev r]; exact h0⟩
theorem drop_ok {q : Qy} (h : q.good) {e : Ex} (hw : q.wh = some e) (hc : e.const = true) (r : Pt) (hv : e.ev r ≠ 0) : ({ q with wh := none } : Qy).good ∧ Qeq q { q with wh := none } := by
 refine ⟨⟨h.ag, h.la, h.cnt, h.arg, fun e he => (by cases he), h.src, h.two, h.win, h.tum⟩, ⟨rfl, rfl, rfl, rfl, rfl, Iff.rfl, (Qeq.refl q).arg, fun r' => ?_, .inl ⟨rfl, rfl, rfl⟩⟩⟩
 constructor
 ·rintro ⟨e, he, _⟩; cases he
 ·rintro ⟨f, hf, h0⟩
  rw [hw] at hf
  obtain rfl := Option.some.inj hf
  rw [const_ev hc r' r] at h0
  exact absurd h0 hv
theorem tum_ok {q : Qy} (h : q.good) (hk : q.wk = 2) (he : q.ws = q.we) : ({ q with wk := 1, we := 0 } : Qy).good ∧ Qeq q { q with wk := 1, we := 0 } := by
 have hw := h.win
 refine ⟨⟨h.ag, h.la, h.cnt, h.arg, h.wh, h.src, h.two, ?_, fun _ => rfl⟩, ⟨rfl, rfl, rfl, rfl, rfl, Iff.rfl, (Qeq.refl q).arg, fun _ => Iff.rfl, .inr ⟨hk, he.symm, rfl, rfl, rfl⟩⟩⟩
 exact ⟨hw.1, .inr ⟨.inl rfl, rfl⟩⟩
/-- A store of the same records by windows that are the same. -/
theorem same_store {q p : Qy} (hq : q.good) (hp : p.good) (h : Qeq q p) {P : List Pt} (hn : P.length ≤ 240) (hok : ∀ x ∈ P, okP x) {a b : List En} (ha : allE q.wk q.ws q.we [] P = some a) (hb : allE p.wk p.ws p.we [] P = some b) : a = b := by
 rcases h.win with ⟨e1, e2, e3⟩ | ⟨e1, e2, e3, e4, e5⟩
 ·rw [e1, e2, e3, ha] at hb
  exact Option.some.inj hb
 ·obtain ⟨a', a1, a2, _⟩ := all_inv hq.win P.length P rfl hn hok
  obtain ⟨b', b1, b2, _⟩ := all_inv hp.win P.length P rfl hn hok
  rw [ha] at a1
  obtain rfl := Option.some.inj a1
  rw [hb] at b1
  obtain rfl := Option.some.inj b1
  refine ss_ext (inv_ss a2) (inv_ss b2) (fun x => ?_)
  rw [inv_mem a2, inv_mem b2]
  have hwq := hq.win
  have hwp := hp.win
  rw [e1, e2] at hwq ⊢
  rw [e3, e4, e5] at hwp ⊢
  have key : winP 2 q.ws q.ws P x.k (x.s, x.e) ↔ winP 1 q.ws 0 P x.k (x.s, x.e) := by
   unfold winP
   rw [if_neg (by decide), if_neg (by decide)]
   unfold winN
   constructor
   ·rintro ⟨r, hr, hk, hm⟩
    have hr' := hok r hr
    rw [mem_wspans hwq (by decide) hr'.1.1 hr'.1.2] at hm
    refine ⟨r, hr, hk, (mem_wspans hwp (by decide) hr'.1.1 hr'.1.2 _).2 ?_⟩
    simpa [evW] using hm
   ·rintro ⟨r, hr, hk, hm⟩
    have hr' := hok r hr
    rw [mem_wspans hwp (by decide) hr'.1.1 hr'.1.2] at hm
    refine ⟨r, hr, hk, (mem_wspans hwq (by decide) hr'.1.1 hr'.1.2 _).2 ?_⟩
    simpa [evW] using hm
  rw [key]
theorem addE_lit {l l' : List En} {wk ws we rk rt rv side : Int} (h1 : l.length ≤ 4000 ∧ (∀ x ∈ l, enok x = true) ∧ SS l) (h2 : wok wk ws we) (h3 : side = 0 ∨ side = 1) (h4 : -1099511627776 ≤ rt ∧ rt ≤ 1099511627776)
  (h5 : givE l wk ws we rk rt rv side = (l', true)) : addE l wk ws we rk rt rv side = (l', 0) := by
 unfold addE
 rw [if_neg (by simp [enchk_zero.2 h1]), if_neg (by simp [h2]), if_neg (by omega), if_neg (by omega), h5, if_pos rfl]
theorem val_nil : ([] : List En).length ≤ 4000 ∧ (∀ x ∈ ([] : List En), enok x = true) ∧ SS [] := ⟨by simp, by simp, List.Pairwise.nil⟩
theorem allE_cons {wk ws we : Int} {a b : List En} {p : Pt} {P : List Pt} (h : addE a wk ws we p.k p.t p.v p.d = (b, 0)) : allE wk ws we a (p :: P) = allE wk ws we b P := by
 have e : allE wk ws we a (p :: P) = if (addE a wk ws we p.k p.t p.v p.d).2 = 0 then allE wk ws we (addE a wk ws we p.k p.t p.v p.d).1 P else none := rfl
 rw [e, h, if_pos rfl]
end Go.Proofs.YtnljihjhmgpcoaaGreat
