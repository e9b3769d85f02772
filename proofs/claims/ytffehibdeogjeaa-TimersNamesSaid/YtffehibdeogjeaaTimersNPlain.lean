/- Chapter 18: the plain facts of the law TimersNames: the full heap, the lists that are no heaps. No condition. -/
import Derived.Test.YtffehibdeogjeaaTimersLawKit
namespace Go.Proofs.Ytffehibdeogjeaa
open Go.RowKit

/-- The heap of so many timers, one behind the other. -/
def fulL (m : Nat) : List Tm := (List.range m).map fun (i : Nat) => ⟨0, (i : Int) + 1, 0⟩
theorem fulL_length (m : Nat) : (fulL m).length = m := by simp [fulL]
theorem fulL_succ (m : Nat) : fulL (m + 1) = fulL m ++ [⟨0, (m : Int) + 1, 0⟩] := by simp [fulL, List.range_succ]
theorem fulL_take (m k : Nat) (h : k ≤ m) : (fulL m).take k = fulL k := by
  unfold fulL
  rw [← List.map_take, List.take_range, Nat.min_eq_left h]
theorem fulL_get (m k : Nat) (h : k < m) : (fulL m).getD k t0 = ⟨0, (k : Int) + 1, 0⟩ := by
  simp [fulL, List.getD_eq_getElem?_getD, List.getElem?_map, List.getElem?_range h]
theorem fulL_mem {m : Nat} {t : Tm} (h : t ∈ fulL m) : ∃ i : Nat, i < m ∧ t = ⟨0, (i : Int) + 1, 0⟩ := by
  simp only [fulL, List.mem_map, List.mem_range] at h
  obtain ⟨i, hi, rfl⟩ := h
  exact ⟨i, hi, rfl⟩
theorem fulL_thv (m : Nat) (h : m ≤ 4001) : thv (fulL m) := by
  refine ⟨fun t ht => ?_, fun k k0 hk => ?_⟩
  · obtain ⟨i, hi, rfl⟩ := fulL_mem ht
    unfold tok
    simp only
    omega
  · rw [fulL_length] at hk
    rw [fulL_get m k hk, fulL_get m ((k - 1) / 2) (by omega)]
    unfold tlt
    simp only [decide_eq_false_iff_not]
    omega
theorem tck_many {l : List Tm} (h : 4000 < l.length) : tck l = 4 := by unfold tck; rw [if_pos h]
theorem tck_bad {l : List Tm} (h : l.length ≤ 4000) (hv : ¬ thv l) : tck l = 8 := by unfold tck; rw [if_neg (by omega), if_neg hv]
theorem push_bad {l : List Tm} {q : Int} (x : Tm) (h : tck l = q) (hq : q ≠ 0) : tpush l x = ([], q) := by unfold tpush; rw [if_pos (by rw [h]; exact hq), h]
theorem pop_bad {l : List Tm} {q : Int} (h : tck l = q) (hq : q ≠ 0) : tpopl l = (t0, [], q) := by unfold tpopl; rw [if_pos (by rw [h]; exact hq), h]
theorem until_bad {l : List Tm} {q : Int} (mark : Int) (h : tck l = q) (hq : q ≠ 0) : tuntil l mark = ([], [], q) := by unfold tuntil; rw [if_pos (by rw [h]; exact hq), h]
theorem ful_push1 : tpush (fulL 4000) ⟨0, 0, 1⟩ = ([], 8) := by
  unfold tpush
  rw [if_neg (by rw [tck_ok (fulL_thv 4000 (by omega)) (by rw [fulL_length]; omega)]; simp), if_pos (by simp [tok])]
theorem ful_push2 : tpush (fulL 4000) ⟨0, 1, 1⟩ = ([], 18) := by
  unfold tpush
  rw [if_neg (by rw [tck_ok (fulL_thv 4000 (by omega)) (by rw [fulL_length]; omega)]; simp), if_neg (by simp [tok]), if_pos (by rw [fulL_length]; omega)]
theorem ful_push3 : ∃ M, tpush (fulL 3999) ⟨0, 1, -1⟩ = (M, 0) ∧ M.length = 4000 ∧ M[0]? = some ⟨0, 1, -1⟩ := by
  have hv := fulL_thv 3999 (by omega)
  have hx : tok ⟨0, 1, -1⟩ := by simp [tok]
  refine ⟨_, tpush_ok hv (by rw [fulL_length]; omega) hx, by rw [pushL_length, fulL_length], ?_⟩
  have hh := (thv_push hv hx).2
  have hl : (pushL tlt t0 (fulL 3999) ⟨0, 1, -1⟩).length = 4000 := by rw [pushL_length, fulL_length]
  obtain ⟨M, hM⟩ : ∃ M, M = pushL tlt t0 (fulL 3999) ⟨0, 1, -1⟩ := ⟨_, rfl⟩
  have hp : M.Perm (fulL 3999 ++ [⟨0, 1, -1⟩]) := by rw [hM]; exact pushL_perm _ _ _ _
  rw [← hM] at hh hl ⊢
  obtain ⟨y, hy⟩ : ∃ y, M[0]? = some y := ⟨_, List.getElem?_eq_getElem (by omega)⟩
  rw [hy]
  have hxm : (⟨0, 1, -1⟩ : Tm) ∈ M := hp.mem_iff.2 (by simp)
  obtain ⟨k, hk, hke⟩ := List.getElem_of_mem hxm
  have h1 := heap_first tsto hh k hk
  rw [getD_some hy, getD_some (List.getElem?_eq_getElem hk), hke] at h1
  have hym : y ∈ fulL 3999 ++ [⟨0, 1, -1⟩] := hp.mem_iff.1 (List.mem_of_getElem? hy)
  rcases List.mem_append.1 hym with h | h
  · obtain ⟨i, hi, rfl⟩ := fulL_mem h
    exfalso
    simp [tlt] at h1
    omega
  · simp at h
    rw [h]
theorem one_pop : tpopl [⟨0, 5, 6⟩] = (⟨0, 5, 6⟩, [], 0) := by
  have hv : thv [⟨0, 5, 6⟩] := ⟨by intro t ht; simp at ht; subst ht; simp [tok], fun k k0 hk => by simp at hk; omega⟩
  rw [tpopl_ok hv (by simp) (by simp), popL_one (by rfl)]
  rfl
theorem one_until : tuntil [⟨0, 5, 6⟩] 4 = ([], [⟨0, 5, 6⟩], 0) := by
  have hv : thv [⟨0, 5, 6⟩] := ⟨by intro t ht; simp at ht; subst ht; simp [tok], fun k k0 hk => by simp at hk; omega⟩
  rw [tuntil_ok 4 hv (by simp)]
  have e : untilL tlt t0 (fun t => decide (t.e ≤ 4)) ([⟨0, 5, 6⟩] : List Tm).length [⟨0, 5, 6⟩] = ([], [⟨0, 5, 6⟩]) := by decide +kernel
  rw [e]
theorem nil_pop : tpopl [] = (t0, [], 6) := by unfold tpopl; rw [if_neg (by rw [tck_ok thv_nil (by simp)]; simp)]; rfl

def bad1 : List Tm := [⟨0, 2, 0⟩, ⟨0, 1, 0⟩]
def bad2 : List Tm := [⟨0, 1, 0⟩, ⟨0, 3, 0⟩, ⟨0, 1, -1⟩]
def bad3 : List Tm := [⟨0, 0, 0⟩]
def bad4 : List Tm := [⟨0, 1100585369601, 0⟩]
def bad5 : List Tm := [⟨-1100585369601, 0, 0⟩]
def bad6 : List Tm := [⟨0, 1, 0⟩, ⟨0, 2, 0⟩, ⟨0, 3, 0⟩, ⟨0, 1, 5⟩]
theorem bad1_ck : tck bad1 = 8 := tck_bad (by decide) (fun h => by have := h.2 1 (by omega) (by decide); revert this; decide)
theorem bad2_ck : tck bad2 = 8 := tck_bad (by decide) (fun h => by have := h.2 2 (by omega) (by decide); revert this; decide)
theorem bad3_ck : tck bad3 = 8 := tck_bad (by decide) (fun h => by have := h.1 _ (List.mem_cons_self); simp [tok] at this)
theorem bad4_ck : tck bad4 = 8 := tck_bad (by decide) (fun h => by have := h.1 _ (List.mem_cons_self); simp [tok] at this)
theorem bad5_ck : tck bad5 = 8 := tck_bad (by decide) (fun h => by have := h.1 _ (List.mem_cons_self); simp [tok] at this)
theorem bad6_ck : tck bad6 = 8 := tck_bad (by decide) (fun h => by have := h.2 3 (by omega) (by decide); revert this; decide)
/-- A box of the call's own that holds a list's cells reads as the list. -/
theorem rd_box {w : World} {g : Nat} {cs : List Value} {l : List Tm} (hlt : g < w.heap.size) (hc : ∀ i, w.cell? ⟨g, i, none⟩ = cs[i]?) (he : cs = l.flatMap tenc) : Rd tenc 3 w w.heap.size (some ⟨g, 0, none⟩) l := by
  subst he
  intro _
  refine ⟨g, 0, rfl, hlt, fun k x hx j u hj => ?_⟩
  rw [hc, Nat.zero_add]
  exact flat_at tenc_len l k j x u hx hj
theorem rd_take {w : World} {B : Nat} {A : Option Addr} {m : Nat} (h : Rd tenc 3 w B A (fulL m)) (j : Nat) (hj : j ≤ m) : Rd tenc 3 w B A (fulL j) := by
  intro hn
  have hm : fulL m ≠ [] := by
    intro e
    have := congrArg List.length e
    rw [fulL_length] at this
    simp at this
    subst this
    obtain rfl : j = 0 := by omega
    exact hn rfl
  obtain ⟨b, off, e, hb, hc⟩ := h hm
  refine ⟨b, off, e, hb, fun k x hx => hc k x ?_⟩
  rw [← fulL_take m j hj, List.getElem?_take] at hx
  split at hx
  · exact hx
  · cases hx
end Go.Proofs.Ytffehibdeogjeaa
