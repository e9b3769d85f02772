/- What the reference's spread of a store keeps within bounds (chapter 17): plain. Condition: a valid store. -/
import Derived.Test.YtbbdepeifdbbdaaStoreWith
import Derived.Test.YtbbdepeifdbbdaaStoreSorted
import Derived.Test.YtbbdepeifdbbdaaStoreAdd
namespace Go.Proofs.Ytbbdepeifdbbdaa
open Go.RowKit

/-- The counts of a list together. -/
def tot1 (l : List En) : Int := (l.map En.c1).sum
def tot2 (l : List En) : Int := (l.map En.c2).sum
theorem tot_cons (x : En) (l : List En) : tot1 (x :: l) = x.c1 + tot1 l ∧ tot2 (x :: l) = x.c2 + tot2 l := by simp [tot1, tot2]
theorem tot_app (l m : List En) : tot1 (l ++ m) = tot1 l + tot1 m ∧ tot2 (l ++ m) = tot2 l + tot2 m := by simp [tot1, tot2]
theorem tot_perm {l m : List En} (h : l.Perm m) : tot1 l = tot1 m ∧ tot2 l = tot2 m := by
  induction h with
  | nil => exact ⟨rfl, rfl⟩
  | cons x _ ih => rw [(tot_cons _ _).1, (tot_cons _ _).1, (tot_cons _ _).2, (tot_cons _ _).2, ih.1, ih.2]; exact ⟨rfl, rfl⟩
  | swap x y l => simp only [(tot_cons _ _).1, (tot_cons _ _).2]; omega
  | trans _ _ h1 h2 => exact ⟨h1.1.trans h2.1, h1.2.trans h2.2⟩
theorem enw_c {x : En} (h : enw x) : 0 ≤ x.c1 ∧ 0 ≤ x.c2 := by
  have h1 := h.2.1
  have h2 := h.2.2
  unfold Acc.wk at h1 h2
  have e1 : x.a.c = x.c1 := rfl
  have e2 : x.b.c = x.c2 := rfl
  omega
theorem tot_nonneg : ∀ {l : List En}, (∀ y ∈ l, enw y) → 0 ≤ tot1 l ∧ 0 ≤ tot2 l
  | [], _ => by simp [tot1, tot2]
  | x :: l, h => by
    have h1 := tot_nonneg (l := l) (fun y hy => h y (by simp [hy]))
    have h2 := enw_c (h x (by simp))
    rw [(tot_cons _ _).1, (tot_cons _ _).2]
    omega
theorem foldJ_tot {x : En} (hx : enw x) : ∀ {ys : List En}, (∀ y ∈ ys, enw y) → (ys.foldl enJ x).c1 = x.c1 + tot1 ys ∧ (ys.foldl enJ x).c2 = x.c2 + tot2 ys := by
  intro ys
  induction ys generalizing x with
  | nil => intro _; simp [tot1, tot2]
  | cons y ys ih =>
    intro h
    have hy := h y (by simp)
    have h1 := ih (enw_J hx hy) (fun z hz => h z (by simp [hz]))
    have e1 : (enJ x y).c1 = (aboth x.a y.a).c := rfl
    have e2 : (enJ x y).c2 = (aboth x.b y.b).c := rfl
    rw [e1, e2, both_c hx.2.1 hy.2.1, both_c hx.2.2 hy.2.2] at h1
    have e3 : x.a.c = x.c1 := rfl
    have e4 : x.b.c = x.c2 := rfl
    have e5 : y.a.c = y.c1 := rfl
    have e6 : y.b.c = y.c2 := rfl
    rw [(tot_cons _ _).1, (tot_cons _ _).2]
    simp only [List.foldl_cons]
    omega
theorem meets_tot {sess : Bool} {l l1 : List En} {x x1 : En} (hx : enw x) (hl : ∀ y ∈ l, enw y) (h : Meets (hitE sess) l x l1 x1) : tot1 l1 + x1.c1 = tot1 l + x.c1 ∧ tot2 l1 + x1.c2 = tot2 l + x.c2 := by
  obtain ⟨ys, h1, _, h3, _, _⟩ := h.facts
  have hin : ∀ y ∈ ys, y ∈ l := fun y hy => h1.mem_iff.2 (List.mem_append_left _ hy)
  have hb := foldJ_tot hx (fun y hy => hl y (hin y hy))
  have hp := tot_perm h1
  rw [(tot_app _ _).1, (tot_app _ _).2] at hp
  rw [← h3] at hb
  omega
/-- What is taken in stays below the counts together. -/
theorem meets_le {sess : Bool} {l l1 : List En} {x x1 : En} (hx : enw x) (hl : ∀ y ∈ l, enw y) (h : Meets (hitE sess) l x l1 x1) : x1.c1 ≤ tot1 l + x.c1 ∧ x1.c2 ≤ tot2 l + x.c2 := by
  have h1 := meets_tot hx hl h
  obtain ⟨_, _, h2, _⟩ := h.facts
  have h3 := tot_nonneg (l := l1) (fun y hy => hl y (h2.subset hy))
  omega
theorem withE_tot {sess : Bool} {l : List En} {x : En} (hx : enw x) (hl : ∀ y ∈ l, enw y) : tot1 (withE sess l x).1 = tot1 l + x.c1 ∧ tot2 (withE sess l x).1 = tot2 l + x.c2 ∧ (withE sess l x).1.length ≤ l.length + 1 := by
  have hm := absorb_meets (hitE sess) l.length l x
  have h1 := meets_tot hx hl hm
  obtain ⟨_, _, h2, _⟩ := hm.facts
  have h3 := h2.length_le
  unfold withE
  simp only [(tot_app _ _).1, (tot_app _ _).2, (tot_cons _ _).1, (tot_cons _ _).2, List.length_append, List.length_singleton]
  have e1 : tot1 ([] : List En) = 0 := rfl
  have e2 : tot2 ([] : List En) = 0 := rfl
  omega
theorem recE_c (k v side s e : Int) : 0 ≤ (recE k v side s e).c1 ∧ (recE k v side s e).c1 ≤ 1 ∧ 0 ≤ (recE k v side s e).c2 ∧ (recE k v side s e).c2 ≤ 1 := by
  unfold recE
  split <;> simp [mkEn, accV, acc0]
end Go.Proofs.Ytbbdepeifdbbdaa
