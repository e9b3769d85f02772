/- What the sessions' functions answer at the inputs that SessionNames names. No condition. -/
import Derived.Test.YtffehibdeogjeaaSessHelp
import Derived.Test.YtffehibdeogjeaaSessPlain2
namespace Go.Proofs.Ytffehibdeogjeaa

def manyS (m : Nat) : List (Int × Int) := (List.range m).map fun (i : Nat) => (2 * (i : Int), 2 * (i : Int) + 1)
def evens (m : Nat) : List Int := (List.range m).map fun (i : Nat) => 2 * (i : Int)
theorem manyS_len (m : Nat) : (manyS m).length = m := by simp [manyS]
theorem evens_len (m : Nat) : (evens m).length = m := by simp [evens]
theorem manyS_succ (m : Nat) : manyS (m + 1) = manyS m ++ [(2 * (m : Int), 2 * (m : Int) + 1)] := by simp [manyS, List.range_succ]
theorem evens_succ (m : Nat) : evens (m + 1) = evens m ++ [2 * (m : Int)] := by simp [evens, List.range_succ]
theorem manyS_mem {m : Nat} {x : Int × Int} : x ∈ manyS m ↔ ∃ i : Nat, i < m ∧ x = (2 * (i : Int), 2 * (i : Int) + 1) := by
  unfold manyS
  rw [List.mem_map]
  constructor
  · rintro ⟨i, hi, rfl⟩; exact ⟨i, List.mem_range.1 hi, rfl⟩
  · rintro ⟨i, hi, rfl⟩; exact ⟨i, List.mem_range.2 hi, rfl⟩
theorem evens_mem {m : Nat} {x : Int} : x ∈ evens m ↔ ∃ i : Nat, i < m ∧ x = 2 * (i : Int) := by
  unfold evens
  rw [List.mem_map]
  constructor
  · rintro ⟨i, hi, rfl⟩; exact ⟨i, List.mem_range.1 hi, rfl⟩
  · rintro ⟨i, hi, rfl⟩; exact ⟨i, List.mem_range.2 hi, rfl⟩
theorem manyS_take (m j : Nat) (h : j ≤ m) : (manyS m).take j = manyS j := by
  unfold manyS
  rw [← List.map_take, List.take_range, Nat.min_eq_left h]
theorem evens_take (m j : Nat) (h : j ≤ m) : (evens m).take j = evens j := by
  unfold evens
  rw [← List.map_take, List.take_range, Nat.min_eq_left h]
theorem manyS_good (m : Nat) : Good (manyS m) := by
  induction m with
  | zero => exact trivial
  | succ m ih =>
    rw [manyS_succ]
    refine good_append.2 ⟨ih, ⟨by simp only; omega, by simp, trivial⟩, fun x hx y hy => ?_⟩
    obtain ⟨i, hi, rfl⟩ := manyS_mem.1 hx
    simp at hy
    subst hy
    simp only
    omega
theorem manyS_srt {m : Nat} (h : m ≤ 4000) : srtB (manyS m) = true := by
  have := srt_canon (l := manyS m) (fun x hx => by
    obtain ⟨i, hi, rfl⟩ := manyS_mem.1 hx
    unfold sok
    simp only
    omega) (by rw [manyS_len]; exact h)
  rwa [canon_same (manyS_good m)] at this
theorem nil_srt : srtB [] = true := by have := manyS_srt (m := 0) (by omega); exact this
theorem sadd_bad {l : List (Int × Int)} {t g : Int} (h : srtB l = false) : sadd l t g = ([], 8) := by unfold sadd; rw [if_pos h]
theorem smerge_bad1 {l m : List (Int × Int)} (h : srtB l = false) : smerge l m = ([], 8) := by unfold smerge; rw [if_pos h]
theorem smerge_bad2 {m : List (Int × Int)} (h : srtB m = false) : smerge [] m = ([], 8) := by unfold smerge; rw [if_neg (by simp [nil_srt]), if_pos h]
theorem sadd_err {l : List (Int × Int)} {t g : Int} (h : srtB l = true) (h2 : sck t g ≠ 0) : sadd l t g = ([], sck t g) := by unfold sadd; rw [if_neg (by simp [h]), if_pos h2]
theorem n_a : sadd [] 1125899906842624 0 = ([], 2) := sadd_err nil_srt (by decide)
theorem n_b : sadd [] 1099511627777 5 = ([], 16) := sadd_err nil_srt (by decide)
theorem sfew_with {l : List (Int × Int)} {s : Int × Int} (hg : Good l) (hs : s.1 < s.2) : sfew (l ++ [s]) = if 4000 < (withS l s).length then ([], 4) else (withS l s, 0) := by
  unfold sfew
  rw [canon_with hg hs]
theorem many_far {s : Int × Int} (h : s.2 ≤ 0) (hs : s.1 < s.2) : sfew (manyS 4000 ++ [s]) = ([], 4) := by
  have h1 := (with_far (l := manyS 4000) (s := s) (fun x hx => by
    obtain ⟨i, hi, rfl⟩ := manyS_mem.1 hx
    simp only [ovl, Bool.and_eq_false_iff, decide_eq_false_iff_not]
    omega)).2
  rw [manyS_len] at h1
  rw [sfew_with (manyS_good _) hs, if_pos (by omega)]
theorem n_c : sadd (manyS 4000) (-9) 1 = ([], 4) := by
  unfold sadd
  rw [if_neg (by simp [manyS_srt]), if_neg (by decide)]
  exact many_far (by decide) (by decide)
theorem canon_again {l : List (Int × Int)} {x : Int × Int} (hg : Good l) (hin : x ∈ l) : canon (l ++ [x]) = l := by
  have hn : ∀ y ∈ l ++ [x], y.1 < y.2 := fun y hy => by
    rcases List.mem_append.1 hy with h | h
    · exact good_mem hg y h
    · simp at h; subst h; exact good_mem hg y hin
  obtain ⟨a1, a2⟩ := canon_good hn
  refine good_unique a1 hg fun z => ?_
  rw [a2, cov_append, cov_cons]
  simp only [cov_nil, or_false]
  constructor
  · rintro (h | h)
    · exact h
    · exact ⟨x, hin, h⟩
  · exact .inl
theorem sadd_again {l : List (Int × Int)} {t g : Int} (hg : Good l) (hs : srtB l = true) (hk : sck t g = 0) (h4 : l.length ≤ 4000) (hin : (t, t + g) ∈ l) : sadd l t g = (l, 0) := by
  unfold sadd sfew
  rw [if_neg (by simp [hs]), if_neg (by simp [hk]), canon_again hg hin, if_neg (by omega)]
theorem many_8 {m : Nat} (h : 4 < m) : ((8 : Int), (8 : Int) + 1) ∈ manyS m := manyS_mem.2 ⟨4, h, by decide⟩
theorem n_d' {m : Nat} (h : 4 < m) (h2 : m ≤ 4000) : sadd (manyS m) 8 1 = (manyS m, 0) :=
  sadd_again (manyS_good m) (manyS_srt h2) (by decide) (by rw [manyS_len]; exact h2) (many_8 h)
theorem n_d : sadd (manyS 4000) 8 1 = (manyS 4000, 0) := n_d' (by omega) (by omega)
theorem n_e : sof (evens 4001) 1073741825 = ([], 2) := by unfold sof; rw [if_pos (by decide)]; rfl
theorem n_f : sof (evens 4001) 1 = ([], 4) := by unfold sof; rw [if_neg (by decide), if_pos (by rw [evens_len]; omega)]
theorem n_g : sof [0, -1099511627777] 1 = ([], 16) := by unfold sof; rw [if_neg (by decide), if_neg (by decide), if_neg (by decide)]
theorem evens_ok {m : Nat} {g : Int} (hm : m ≤ 4000) (hg : 1 ≤ g) (hg2 : g ≤ 10) : ∀ t ∈ evens m, sck t g = 0 := fun t ht => by
  obtain ⟨i, hi, rfl⟩ := evens_mem.1 ht
  unfold sck
  rw [if_neg (by omega), if_neg (by omega)]
theorem two_good (m : Nat) : Good (stimes 2 (evens m)) := by
  induction m with
  | zero => exact trivial
  | succ m ih =>
    rw [evens_succ, show stimes 2 (evens m ++ [2 * (m : Int)]) = stimes 2 (evens m) ++ [(2 * (m : Int), 2 * (m : Int) + 2)] by simp [stimes]]
    refine good_append.2 ⟨ih, ⟨by simp only; omega, by simp, trivial⟩, fun x hx y hy => ?_⟩
    obtain ⟨t, ht, rfl⟩ := List.mem_map.1 hx
    obtain ⟨i, hi, rfl⟩ := evens_mem.1 ht
    simp at hy
    subst hy
    simp only
    omega
theorem n_h : sof (evens 4000) 2 = (stimes 2 (evens 4000), 0) := by
  rw [sof_few (by decide) (by rw [evens_len]; omega) (evens_ok (by omega) (by omega) (by omega)), canon_same (two_good _)]
theorem n_h_len : (stimes 2 (evens 4000)).length = 4000 := by rw [stimes_len, evens_len]
theorem n_i : sof (evens 4000) 3 = ([(0, 8001)], 0) := by
  rw [sof_few (by decide) (by rw [evens_len]; omega) (evens_ok (by omega) (by omega) (by omega))]
  obtain ⟨a1, a2⟩ := canon_good (stimes_ok (ts := evens 4000) (g := 3) (by omega))
  have h : canon (stimes 3 (evens 4000)) = [(0, 8001)] := by
    refine good_unique a1 ⟨by decide, by simp, trivial⟩ fun z => ?_
    rw [a2, cov_times, cov_cons]
    simp only [cov_nil, or_false]
    constructor
    · rintro ⟨t, ht, h1, h2⟩
      obtain ⟨i, hi, rfl⟩ := evens_mem.1 ht
      omega
    · rintro ⟨h1, h2⟩
      by_cases h : z < 16000
      · exact ⟨2 * (((z - 1) / 4).toNat : Int), evens_mem.2 ⟨((z - 1) / 4).toNat, by omega, rfl⟩, by omega, by omega⟩
      · exact ⟨2 * ((3999 : Nat) : Int), evens_mem.2 ⟨3999, by omega, rfl⟩, by omega, by omega⟩
  rw [h]
theorem one_srt {a b : Int} (h : sok (a, b)) : srtB [(a, b)] = true := srt_all (by simp) (srk_lit (by
  intro i hi
  simp at hi
  subst hi
  exact ⟨h, fun h => absurd h (by omega)⟩))
theorem n_j : smerge (manyS 4000) [(-5, -4)] = ([], 4) := by
  unfold smerge
  rw [if_neg (by simp [manyS_srt]), if_neg (by rw [one_srt (by decide)]; simp)]
  exact many_far (by decide) (by decide)
theorem canon_none : canon [] = [] := List.eq_nil_of_length_eq_zero (by have := canon_len []; simpa using this)
theorem n_k : smerge [] [] = ([], 0) := by
  unfold smerge sfew
  rw [if_neg (by simp [nil_srt]), if_neg (by simp [nil_srt]), List.nil_append, canon_none, if_neg (by simp)]
theorem n_l : sadd [] 1099511627776 1073741824 = ([(1099511627776, 1100585369600)], 0) := by
  unfold sadd
  rw [if_neg (by simp [nil_srt]), if_neg (by decide), sfew_with (l := []) trivial (by decide)]
  rfl
theorem bad_0 : srtB (manyS 4001) = false := srt_many (by rw [manyS_len]; omega)
theorem bad_1 : srtB [(5, 5)] = false := srt_false (k := 0) (by decide) (by decide)
theorem bad_2 : srtB [(6, 5)] = false := srt_false (k := 0) (by decide) (by decide)
theorem bad_3 : srtB [(1, 5), (4, 6)] = false := srt_false (k := 1) (by decide) (by decide)
theorem bad_4 : srtB [(9, 10), (1, 2)] = false := srt_false (k := 1) (by decide) (by decide)
theorem bad_5 : srtB [(-1099511627777, 0)] = false := srt_false (k := 0) (by decide) (by decide)
theorem bad_6 : srtB [(1099511627777, 1099511627778)] = false := srt_false (k := 0) (by decide) (by decide)
theorem bad_7 : srtB [(1099511627776, 1100585369601)] = false := srt_false (k := 0) (by decide) (by decide)
end Go.Proofs.Ytffehibdeogjeaa
