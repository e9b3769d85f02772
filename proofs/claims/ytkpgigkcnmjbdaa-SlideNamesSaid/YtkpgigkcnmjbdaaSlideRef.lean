/- The contracts of the reference of the sliding windows (chapter 14). No condition but those that each names. -/
import Derived.Test.YtkpgigkcnmjbdaaSpans
import Derived.Test.YtkpgigkcnmjbdaaTumble
import Derived.Test.YtkpgigkcnmjbdaaAppend
namespace Go.Proofs.Ytkpgigkcnmjbdaa
open Go.RowKit

def sright (size every : Int) : Prop := 1 ≤ size ∧ 1 ≤ every ∧ size ≤ 1073741824 ∧ every ≤ size ∧ size ≤ 16 * every
instance (size every : Int) : Decidable (sright size every) := by unfold sright; infer_instance

set_option maxHeartbeats 1000000 in
theorem right_any (size every : Int) (w0 : (Lit.int .i64 size).wf = true) (w1 : (Lit.int .i64 every).wf = true) (w : World) :
    Calls Try.prog 53 #[.int .i64 size, .int .i64 every] w fun e w' => e = .returned (.bool (decide (sright size every))) ∧ w = w' := by
  obtain ⟨b1, b2⟩ := bounds_i64 w0
  obtain ⟨b3, b4⟩ := bounds_i64 w1
  clear w0 w1
  go_enter Try.func53, Try.ntmps53
  go_wp2
  all_goals (go_ret; exact ⟨ret_bool (by unfold sright; grind), rfl⟩)

/-- The windows with the numbers n - 16 .. n + 1 that have the time, in order. -/
def swin (t size every : Int) (i : Int) : Bool := decide (i * every ≤ t ∧ t < i * every + size)
def swk (t size every n : Int) (k : Nat) : List (Int × Int) := (((List.range k).map fun (j : Nat) => n - 16 + (j : Int)).filter (swin t size every)).map fun i => (i * every, i * every + size)
theorem swk_succ (t size every n : Int) (k : Nat) : swk t size every n (k + 1) = if swin t size every (n - 16 + k) = true then swk t size every n k ++ [((n - 16 + k) * every, (n - 16 + k) * every + size)] else swk t size every n k := by
  unfold swk
  rw [List.range_succ]
  split <;> rename_i h <;> simp [List.filter_append, h]

theorem swk_len (t size every n : Int) (k : Nat) : (swk t size every n k).length ≤ k := by
  unfold swk
  simp only [List.length_map]
  exact Nat.le_trans (List.length_filter_le _ _) (by simp)
theorem span_info : (Try.prog.info? 23).map (fun i => (i.zero, i.size, i.bytes)) = some (some (.agg #[.int .i64 0, .int .i64 0]), 2, 16) := by kernel_rfl

set_option maxHeartbeats 4000000 in
set_option maxRecDepth 100000 in
theorem windows_any (t size every : Int) (w : World) (hb1 : 1 ≤ every) (hb2 : every ≤ 1073741824) (hb3 : -1099511627776 ≤ t) (hb4 : t ≤ 1099511627776) (hs1 : 1 ≤ size) (hs2 : size ≤ 1073741824) :
    Calls Try.prog 56 #[.int .i64 t, .int .i64 size, .int .i64 every] w fun e w' => ∃ v, e = .returned v ∧ Own senc 2 w' w.heap.size 23 v (swk t size every (t / every) 18) ∧ Below w.heap.size w w' := by
  obtain ⟨i0, hi0, hz0, hz1, hz2⟩ := info_parts span_info
  obtain ⟨q1, q2, q3, q4, q5⟩ := floor_facts hb1 hb3 hb4
  obtain ⟨n, hn⟩ : ∃ n, n = t / every := ⟨_, rfl⟩
  rw [← hn] at q1 q2 q3 q4 q5 ⊢
  have hn' := Lib.hid hn
  clear q3
  go_enter Try.func56, Try.ntmps56
  go_wp2_with (go_at_call 46; refine (at_any _ _ _ hb1 hb2 hb3 hb4).mono ?_; rw [← hn]; clear hn; rintro e w' ⟨rfl, rfl⟩)
  go_loopw [8, 9] (fun v i wr => ∃ k : Nat, k ≤ 18 ∧ i = .int .i64 (n - 16 + k) ∧ Own senc 2 wr w.heap.size 23 v (swk t size every n k) ∧ Below w.heap.size w wr) (fun _ i _ => (n + 2 - intOf i).toNat)
  case atStart => exact ⟨0, by omega, by simp, Own.nil _ _ _, Below.refl _ _⟩
  case round =>
    obtain ⟨k, hk, rfl, hown, hb⟩ := hrel
    by_cases hlt : k < 18
    · have hsl := swk_len t size every n k
      have hsu := Lib.hid (swk_succ t size every n k)
      have m1 : (n - 16 + k) * every = n * every - 16 * every + k * every := by rw [Int.add_mul, Int.sub_mul]
      have m2 : (k : Int) * every ≤ 18 * every := Int.mul_le_mul_of_nonneg_right (by omega) (by omega)
      have m3 : 0 ≤ (k : Int) * every := Int.mul_nonneg (by omega) (by omega)
      have B1 : -35184372088832 ≤ (n - 16 + (k : Int)) * every := by rw [m1]; omega
      have B2 : (n - 16 + (k : Int)) * every ≤ 35184372088832 := by rw [m1]; omega
      clear m1 m2 m3
      by_cases hsw : swin t size every (n - 16 + k) = true
      · have hsw2 : (n - 16 + (k : Int)) * every ≤ t ∧ t < (n - 16 + (k : Int)) * every + size := by simpa [swin] using hsw
        obtain ⟨t1, t2⟩ := hsw2
        have hsw' := Lib.hid hsw; clear hsw
        go_wp2_with (first
          | (at_builtin; refine wpList_append_elem rfl _ _ 54 rfl w.heap.size 23 i0 (.agg #[.int .i64 0, .int .i64 0]) 2 16 Try.underlying54 hi0 hz0 hz1 hz2 rfl (by decide) senc (fun _ => rfl) _ _ ((n - 16 + (k : Int)) * every, (n - 16 + (k : Int)) * every + size) rfl (hown.alloc _) ⟨wr.heap.size, 0, none⟩ 1 rfl ?c1 ?c2 ?c3 ?c4 ?c5 ?_))
        case c1 =>
          intro j u hj
          match j, hj with
          | 0, hj => simp [senc] at hj; subst hj; simp [Addr.add]
          | 1, hj => simp [senc] at hj; subst hj; simp [Addr.add]
        case c2 => intro u hu; simp [senc] at hu; rcases hu with rfl | rfl <;> rfl
        case c3 => unfold maxLen; omega
        case c4 => omega
        case c5 => have := hb.size; simp; omega
        · intro v' w1 hown' hgrow hbel
          have hb' := (hb.alloc hb.size _).trans hbel
          clear hown hgrow hbel hb
          go_wp2
          go_roundw
          case rel => exact ⟨k + 1, by omega, by go_num, by rw [hsu.out, if_pos hsw'.out]; exact hown', hb'⟩
          case measure => simp [intOf]; omega
      · have hsw2 : ¬ ((n - 16 + (k : Int)) * every ≤ t ∧ t < (n - 16 + (k : Int)) * every + size) := by simpa [swin] using hsw
        have hsw' := Lib.hid hsw; clear hsw
        have hsw3 := Lib.hid hsw2; clear hsw2
        go_wp2
        all_goals first
          | (exfalso; have := hsw3.out; omega)
          | (go_roundw
             case rel => exact ⟨k + 1, by omega, by go_num, by rw [hsu.out, if_neg hsw'.out]; exact hown, hb⟩
             case measure => simp [intOf]; omega)
    · obtain rfl : k = 18 := by omega
      go_wp2
      go_ret
      exact ⟨_, rfl, hown, hb⟩

/-- The reference's sliding windows. -/
def swins (t size every : Int) : List (Int × Int) := swk t size every (t / every) 18
def rall (t size every : Int) : List (Int × Int) × Int := if ¬ sright size every then ([], 2) else if t < -1099511627776 ∨ 1099511627776 < t then ([], 16) else (swins t size every, 0)

set_option maxHeartbeats 1000000 in
theorem rall_any (t size every : Int) (w0 : (Lit.int .i64 size).wf = true) (w1 : (Lit.int .i64 every).wf = true) (w : World) :
    Calls Try.prog 42 #[.int .i64 t, .int .i64 size, .int .i64 every] w fun e w' => ∃ v, e = .returned (.tuple #[v, .int .i64 (rall t size every).2]) ∧ Own senc 2 w' w.heap.size 23 v (rall t size every).1 ∧ Below w.heap.size w w' := by
  by_cases hr : sright size every
  · by_cases ht : t < -1099511627776 ∨ 1099511627776 < t
    · have h1 : decide (sright size every) = true := by simp [hr]
      have h2 : tchk t 1 = 16 := by unfold tchk; rw [if_neg (by omega), if_pos ht]
      have h3 : rall t size every = ([], 16) := by unfold rall; rw [if_neg (by simp [hr]), if_pos ht]
      have H := Lib.hid h3
      clear hr ht h3
      go_enter Try.func42, Try.ntmps42
      go_wp2_with (first | (go_at_call 53; refine (right_any _ _ w0 w1 _).mono ?_; rintro e w' ⟨rfl, rfl⟩) | (go_at_call 26; refine (rcheck_any _ _ _).mono ?_; rintro e w' ⟨rfl, rfl⟩))
      go_ret2
      exact ⟨.slice none 0 0, by simp [H.out], by rw [H.out]; exact Own.nil _ _ _, Below.refl _ _⟩
    · have h1 : decide (sright size every) = true := by simp [hr]
      have h2 : tchk t 1 = 0 := by unfold tchk; rw [if_neg (by omega), if_neg ht]
      have h3 : rall t size every = (swins t size every, 0) := by unfold rall; rw [if_neg (by simp [hr]), if_neg ht]
      obtain ⟨s1, s2, s3, s4, s5⟩ := hr
      have H := Lib.hid h3
      clear h3
      go_enter Try.func42, Try.ntmps42
      go_wp2_with (first | (go_at_call 53; refine (right_any _ _ w0 w1 _).mono ?_; rintro e w' ⟨rfl, rfl⟩) | (go_at_call 26; refine (rcheck_any _ _ _).mono ?_; rintro e w' ⟨rfl, rfl⟩) | (go_at_call 56; refine (windows_any _ _ _ _ s2 (by omega) (by omega) (by omega) s1 s3).mono ?_; rintro e w' ⟨v, rfl, hown, hb⟩))
      go_ret2
      exact ⟨v, by simp [H.out], by rw [H.out]; exact hown, hb⟩
  · have h1 : decide (sright size every) = false := by simp [hr]
    have h3 : rall t size every = ([], 2) := by unfold rall; rw [if_pos hr]
    have H := Lib.hid h3
    clear hr h3
    go_enter Try.func42, Try.ntmps42
    go_wp2_with (go_at_call 53; refine (right_any _ _ w0 w1 _).mono ?_; rintro e w' ⟨rfl, rfl⟩)
    go_ret2
    exact ⟨.slice none 0 0, by simp [H.out], by rw [H.out]; exact Own.nil _ _ _, Below.refl _ _⟩
end Go.Proofs.Ytkpgigkcnmjbdaa
