/- Sessions in their one form (chapter 15), and the contracts of session.few, Add. Condition: lists of at most 2^40 spans. -/
import Derived.Test.YtffehibdeogjeaaSessMerged
namespace Go.Proofs.Ytffehibdeogjeaa
open Go.RowKit

/-- Spans merged, in whatever order they lie. -/
def canon (l : List (Int × Int)) : List (Int × Int) := mergeS (l.mergeSort fun a b => decide (a.1 ≤ b.1))
theorem canon_sorted (l : List (Int × Int)) : (l.mergeSort fun a b => decide (a.1 ≤ b.1)).Pairwise fun a b => a.1 ≤ b.1 := by
  have h := List.pairwise_mergeSort (le := fun (a b : Int × Int) => decide (a.1 ≤ b.1)) (by intro a b c h1 h2; simp at *; omega) (by intro a b; simp; omega) l
  exact h.imp (by intro a b h; simpa using h)
theorem canon_eq {l l' : List (Int × Int)} (hn : ∀ x ∈ l, x.1 < x.2) (hp : l'.Perm l) (hs : l'.Pairwise fun a b => a.1 ≤ b.1) : mergeS l' = canon l :=
  mergeS_perm (fun x hx => hn x (hp.mem_iff.1 hx)) hs (canon_sorted l) (hp.trans (List.mergeSort_perm l _).symm)
theorem canon_good {l : List (Int × Int)} (hn : ∀ x ∈ l, x.1 < x.2) : Good (canon l) ∧ ∀ z, Cov (canon l) z ↔ Cov l z := by
  obtain ⟨h1, h2⟩ := mergeS_good (l.mergeSort fun a b => decide (a.1 ≤ b.1)) (fun x hx => hn x ((List.mergeSort_perm l _).mem_iff.1 hx)) (canon_sorted l)
  exact ⟨h1, fun z => (h2 z).trans (cov_perm (List.mergeSort_perm l _) z)⟩
/-- One more span among sessions: as the reference does it. -/
theorem canon_with {l : List (Int × Int)} {s : Int × Int} (hg : Good l) (hs : s.1 < s.2) : canon (l ++ [s]) = withS l s := by
  have hn : ∀ x ∈ l ++ [s], x.1 < x.2 := fun x hx => by
    rcases List.mem_append.1 hx with h | h
    · exact good_mem hg x h
    · simp at h; subst h; exact hs
  obtain ⟨a1, a2⟩ := canon_good hn
  obtain ⟨b1, b2⟩ := withS_good l s hg hs
  refine good_unique a1 b1 fun z => ?_
  rw [a2, b2, cov_append, cov_cons]
  simp only [cov_nil, or_false]
theorem canon_same {l : List (Int × Int)} (hg : Good l) : canon l = l := by
  obtain ⟨a1, a2⟩ := canon_good (fun x hx => good_mem hg x hx)
  exact good_unique a1 hg a2
/-- Many spans put among sessions one by one. -/
theorem withS_all (xs l : List (Int × Int)) (hg : Good l) (hn : ∀ x ∈ xs, x.1 < x.2) : Good (xs.foldl withS l) ∧ ∀ z, Cov (xs.foldl withS l) z ↔ Cov l z ∨ Cov xs z := by
  induction xs generalizing l with
  | nil => exact ⟨hg, fun z => by simp [cov_nil]⟩
  | cons x xs ih =>
    obtain ⟨h1, h2⟩ := withS_good l x hg (hn x (by simp))
    obtain ⟨h3, h4⟩ := ih (withS l x) h1 (fun y hy => hn y (by simp [hy]))
    refine ⟨h3, fun z => ?_⟩
    rw [List.foldl_cons, h4 z, h2 z, cov_cons, or_assoc]
theorem canon_fold {l xs : List (Int × Int)} (hg : Good l) (hn : ∀ x ∈ xs, x.1 < x.2) : canon (l ++ xs) = xs.foldl withS l := by
  obtain ⟨a1, a2⟩ := canon_good (l := l ++ xs) (fun x hx => (List.mem_append.1 hx).elim (good_mem hg x) (hn x))
  obtain ⟨b1, b2⟩ := withS_all xs l hg hn
  exact good_unique a1 b1 fun z => by rw [a2, b2, cov_append]
theorem mergeS_len (l : List (Int × Int)) : (mergeS l).length ≤ l.length := by
  suffices H : ∀ (l o : List (Int × Int)), (l.foldl mstep o).length ≤ o.length + l.length by simpa [mergeS] using H l []
  intro l
  induction l with
  | nil => intro o; simp
  | cons x l ih => intro o; have h1 := ih (mstep o x); have h2 := mstep_len o x; simp only [List.foldl_cons, List.length_cons]; omega
theorem canon_len (l : List (Int × Int)) : (canon l).length ≤ l.length := by
  have := mergeS_len (l.mergeSort fun a b => decide (a.1 ≤ b.1))
  rwa [List.length_mergeSort] at this
theorem good_of_srk {l : List (Int × Int)} (h : srk l l.length) : Good l := by
  suffices H : ∀ (l : List (Int × Int)), (∀ i, i < l.length → (l.getD i (0, 0)).1 < (l.getD i (0, 0)).2) → (∀ i, 0 < i → i < l.length → (l.getD (i - 1) (0, 0)).2 ≤ (l.getD i (0, 0)).1) → Good l from
    H l (fun i hi => (h.1 i hi).2.2.1) h.2
  intro l
  induction l with
  | nil => intro _ _; trivial
  | cons s l ih =>
    intro h1 h2
    have h1' : ∀ i, i < l.length → (l.getD i (0, 0)).1 < (l.getD i (0, 0)).2 := fun i hi => by have := h1 (i + 1) (by simp; omega); simpa using this
    have h2' : ∀ i, 0 < i → i < l.length → (l.getD (i - 1) (0, 0)).2 ≤ (l.getD i (0, 0)).1 := fun i h0 hi => by
      have := h2 (i + 1) (by omega) (by simp; omega)
      obtain ⟨j, rfl⟩ : ∃ j, i = j + 1 := ⟨i - 1, by omega⟩
      simpa using this
    have hg := ih h1' h2'
    refine ⟨by simpa using h1 0 (by simp), fun x hx => ?_, hg⟩
    match l, hx, h1', h2, hg with
    | y :: l, hx, h1', h2, hg =>
      have hy : s.2 ≤ y.1 := by simpa using h2 1 (by omega) (by simp)
      rcases List.mem_cons.1 hx with rfl | hx
      · exact hy
      · have h3 := hg.2.1 x hx
        have h4 := hg.1
        omega
open Classical in
theorem good_of_srtB {l : List (Int × Int)} (h : srtB l = true) : Good l ∧ l.length ≤ 4000 := by
  unfold srtB at h
  have h := of_decide_eq_true h
  exact ⟨good_of_srk h.2, h.1⟩

/-- The sessions, unless they are too many. -/
def sfew (l : List (Int × Int)) : List (Int × Int) × Int := if 4000 < (canon l).length then ([], 4) else (canon l, 0)
set_option maxHeartbeats 2000000 in
set_option maxRecDepth 100000 in
theorem smerged_any (A : Option Addr) (c n : Nat) (l : List (Int × Int)) (w : World) (hln : l.length = n) (hz : A = none → c = 0) (hn : n ≤ 1099511627776) (hne : ∀ x ∈ l, x.1 < x.2) (hr : Rd senc 2 w w.heap.size A l) :
    Calls Try.prog 96 #[.slice A n c] w fun e w' => ∃ v, e = .returned v ∧ Own senc 2 w' w.heap.size 32 v (canon l) ∧ Below w.heap.size w w' := by
  refine (merged_any A c n l w hln hz hn hr).mono ?_
  rintro e w' ⟨v, l', he, hp, hs, ho, hb⟩
  rw [canon_eq hne hp hs] at ho
  exact ⟨v, he, ho, hb⟩
set_option maxHeartbeats 2000000 in
set_option maxRecDepth 100000 in
theorem sfew_any (A : Option Addr) (c n : Nat) (l : List (Int × Int)) (w : World) (hln : l.length = n) (hz : A = none → c = 0) (hn : n ≤ 1099511627776) (hne : ∀ x ∈ l, x.1 < x.2) (hr : Rd senc 2 w w.heap.size A l) :
    Calls Try.prog 98 #[.slice A n c] w fun e w' => ∃ v, e = .returned (.tuple #[v, .int .i64 (sfew l).2]) ∧ Own senc 2 w' w.heap.size 32 v (sfew l).1 ∧ Below w.heap.size w w' := by
  have hm := fun W (h : Rd senc 2 W W.heap.size A l) => smerged_any A c n l W hln hz hn hne h
  obtain ⟨M, hM⟩ : ∃ M, M = canon l := ⟨_, rfl⟩
  rw [← hM] at hm
  obtain ⟨k, hk⟩ : ∃ k, M.length = k := ⟨_, rfl⟩
  have HM := Lib.hid hm; have HK := Lib.hid hk
  by_cases h4 : 4000 < k
  · have b1 : decide ((4000 : Int) < (k : Int)) = true := by simp; omega
    have b1' : decide (4000 < k) = true := by simp [h4]
    have hs : sfew l = ([], 4) := by unfold sfew; rw [← hM, if_pos (by rw [hk]; exact h4)]
    have HS := Lib.hid hs
    clear hm hk hs hM hln hz h4
    go_enter Try.func98, Try.ntmps98
    go_wp2_with fail
    go_at_call 96
    refine (HM.out _ hr).mono ?_
    rintro r w1 ⟨v1, rfl, own1, hb1⟩
    obtain ⟨A1, c1, rfl, -⟩ := own_shape_n own1 HK.out
    go_wp2
    go_ret2
    rw [HS.out]
    exact ⟨.slice none 0 0, rfl, Own.nil _ _ _, hb1⟩
  · have b1 : decide ((4000 : Int) < (k : Int)) = false := by simp; omega
    have b1' : decide (4000 < k) = false := by simp [h4]
    have hs : sfew l = (M, 0) := by unfold sfew; rw [← hM, if_neg (by rw [hk]; exact h4)]
    have HS := Lib.hid hs
    clear hm hk hs hM hln hz h4
    go_enter Try.func98, Try.ntmps98
    go_wp2_with fail
    go_at_call 96
    refine (HM.out _ hr).mono ?_
    rintro r w1 ⟨v1, rfl, own1, hb1⟩
    obtain ⟨A1, c1, rfl, -⟩ := own_shape_n own1 HK.out
    go_wp2
    go_ret2
    rw [HS.out]
    exact ⟨_, rfl, own1, hb1⟩
end Go.Proofs.Ytffehibdeogjeaa
