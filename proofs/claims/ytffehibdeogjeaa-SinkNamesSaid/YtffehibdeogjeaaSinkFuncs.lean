/- The contracts of the sink's sorting (chapter 34): slices.Clone, sorted, Late, Rows, Same, and the chapter's example. Condition: lists of at most 2^40. -/
import Derived.Test.YtffehibdeogjeaaSinkSame
import Derived.Lib.SliceRun
import Derived.Laws.EntriesVeiled
namespace Go.Proofs.Ytffehibdeogjeaa
open Go.RowKit Go.Sort Go.Shelf

theorem r_info : (Try.prog.info? 69).map (fun i => (i.zero, i.size, i.bytes)) = some (some (.agg #[.int .i64 0, .int .i64 0, .int .i64 0]), 3, 24) := by kernel_rfl
set_option maxHeartbeats 2000000 in
set_option maxRecDepth 100000 in
theorem rclone_any (A : Option Addr) (c n : Nat) (l : List Rc) (w : World) (hln : l.length = n) (hz : A = none → c = 0) (hn : n ≤ 1099511627776) (hr : Rd renc 3 w w.heap.size A l) :
    Calls Try.prog 119 #[.slice A n c] w fun e w' => ∃ v, e = .returned v ∧ Own renc 3 w' w.heap.size 69 v l ∧ Below w.heap.size w w' := by
  obtain ⟨i0, hi0, hz0, hz1, hz2⟩ := info_parts r_info
  have HL := Lib.hid hln
  have hu : ∀ (w : World) (a : Option Addr) (n c n' c' : Nat), (binOp .eql 65 (.slice a n c) (.slice none n' c')).run Try.prog w = .ok (.bool a.isNone) w := fun w a n c n' c' => Lib.run_eql_slice_nil w _ _ a n c n' c' Try.underlying65
  cases A with
  | none =>
    obtain rfl := hz rfl
    obtain rfl := rd_none hr
    obtain rfl : n = 0 := hln.symm
    go_enter Try.func119, Try.ntmps119
    go_wp2
    go_ret
    exact ⟨_, rfl, Own.nil _ _ _, (by repeat (first | with_reducible exact Below.refl _ _ | with_reducible assumption | (with_reducible exact Env.below (by assumption)) | (with_reducible refine below_new ?_ _) | (with_reducible refine below_drew ?_) | (with_reducible refine below_drewN ?_ _) | (with_reducible refine below_put ?_ ?_ _; rotate_left 1; (dsimp only; omega)) | (with_reducible refine below_then ?_ (by assumption))))⟩
  | some ad =>
    clear hln
    go_enter Try.func119, Try.ntmps119
    go_wp2_with (at_builtin; refine wpList_append_copy rfl (.tmp 5) (.tmp 6) 65 rfl w.heap.size 69 i0 (.agg #[.int .i64 0, .int .i64 0, .int .i64 0]) 3 24 Try.underlying65 hi0 hz0 hz1 hz2 rfl (by decide) renc renc_len w.heap.size 0 l rfl (own_empty (heap_alloc_new w (.cells #[] 69)) (Nat.le_refl _)) (some ad) n c rfl HL.out hz (rd_grown hr (by repeat (first | with_reducible exact Below.refl _ _ | with_reducible assumption | (with_reducible exact Env.below (by assumption)) | (with_reducible refine below_new ?_ _) | (with_reducible refine below_drew ?_) | (with_reducible refine below_drewN ?_ _) | (with_reducible refine below_put ?_ ?_ _; rotate_left 1; (dsimp only; omega)) | (with_reducible refine below_then ?_ (by assumption))))) (renc_one l) (by unfold maxLen; omega) (by omega) (by simp) ?_; intro g cap w2 hown2 hcap hg2 hb2)
    go_ret
    exact ⟨_, rfl, hown2, (below_new (Below.refl _ _) _).trans hb2⟩
theorem w_info : (Try.prog.info? 72).map (fun i => (i.zero, i.size, i.bytes)) = some (some (.agg #[.int .i64 0, .int .i64 0, .int .i64 0, .int .i64 0, .int .i64 0]), 5, 40) := by kernel_rfl
set_option maxHeartbeats 2000000 in
set_option maxRecDepth 100000 in
theorem wclone_any (A : Option Addr) (c n : Nat) (l : List Rw) (w : World) (hln : l.length = n) (hz : A = none → c = 0) (hn : n ≤ 1099511627776) (hr : Rd wenc 5 w w.heap.size A l) :
    Calls Try.prog 122 #[.slice A n c] w fun e w' => ∃ v, e = .returned v ∧ Own wenc 5 w' w.heap.size 72 v l ∧ Below w.heap.size w w' := by
  obtain ⟨i0, hi0, hz0, hz1, hz2⟩ := info_parts w_info
  have HL := Lib.hid hln
  have hu : ∀ (w : World) (a : Option Addr) (n c n' c' : Nat), (binOp .eql 64 (.slice a n c) (.slice none n' c')).run Try.prog w = .ok (.bool a.isNone) w := fun w a n c n' c' => Lib.run_eql_slice_nil w _ _ a n c n' c' Try.underlying64
  cases A with
  | none =>
    obtain rfl := hz rfl
    obtain rfl := rd_none hr
    obtain rfl : n = 0 := hln.symm
    go_enter Try.func122, Try.ntmps122
    go_wp2
    go_ret
    exact ⟨_, rfl, Own.nil _ _ _, (by repeat (first | with_reducible exact Below.refl _ _ | with_reducible assumption | (with_reducible exact Env.below (by assumption)) | (with_reducible refine below_new ?_ _) | (with_reducible refine below_drew ?_) | (with_reducible refine below_drewN ?_ _) | (with_reducible refine below_put ?_ ?_ _; rotate_left 1; (dsimp only; omega)) | (with_reducible refine below_then ?_ (by assumption))))⟩
  | some ad =>
    clear hln
    go_enter Try.func122, Try.ntmps122
    go_wp2_with (at_builtin; refine wpList_append_copy rfl (.tmp 5) (.tmp 6) 64 rfl w.heap.size 72 i0 (.agg #[.int .i64 0, .int .i64 0, .int .i64 0, .int .i64 0, .int .i64 0]) 5 40 Try.underlying64 hi0 hz0 hz1 hz2 rfl (by decide) wenc wenc_len w.heap.size 0 l rfl (own_empty (heap_alloc_new w (.cells #[] 72)) (Nat.le_refl _)) (some ad) n c rfl HL.out hz (rd_grown hr (by repeat (first | with_reducible exact Below.refl _ _ | with_reducible assumption | (with_reducible exact Env.below (by assumption)) | (with_reducible refine below_new ?_ _) | (with_reducible refine below_drew ?_) | (with_reducible refine below_drewN ?_ _) | (with_reducible refine below_put ?_ ?_ _; rotate_left 1; (dsimp only; omega)) | (with_reducible refine below_then ?_ (by assumption))))) (wenc_one l) (by unfold maxLen; omega) (by omega) (by simp) ?_; intro g cap w2 hown2 hcap hg2 hb2)
    go_ret
    exact ⟨_, rfl, hown2, (below_new (Below.refl _ _) _).trans hb2⟩
/-- .. of a row of the call's own, at an address or nil. -/
theorem rsort_own (v : Value) (n base : Nat) (l : List Rc) (w : World) (hl : l.length = n) (hn : n ≤ 1099511627776) (hown : Own renc 3 w base 69 v l) :
    Calls Try.prog 120 #[v, .func (.func 85) #[] #[]] w fun e w' => e = .returned (.tuple #[]) ∧ Own renc 3 w' base 69 v (sortL rlt r0 l) ∧ w.grownBy w' v.ownBlock := by
  rcases hown.2 with ⟨rfl, h0⟩ | ⟨g, cp, cur, rfl, hbase, _⟩
  · obtain rfl : l = [] := List.eq_nil_of_length_eq_zero h0
    refine (show Calls Try.prog 120 #[.slice none 0 0, .func (.func 85) #[] #[]] w fun e w' => e = .returned (.tuple #[]) ∧ w' = w from AnyF.slices_SortFunc_none Try.sortRec none 0 _ w).mono ?_
    rintro e w' ⟨he, rfl⟩
    exact ⟨he, Own.nil _ _ _, grown_refl _ _⟩
  · rw [hl] at hown ⊢
    exact sortR_any g n cp base l w hl hn hown
set_option maxHeartbeats 2000000 in
set_option maxRecDepth 100000 in
theorem rec_sorted_any (A : Option Addr) (c n : Nat) (l : List Rc) (w : World) (hln : l.length = n) (hz : A = none → c = 0) (hn : n ≤ 1099511627776) (hr : Rd renc 3 w w.heap.size A l) :
    Calls Try.prog 84 #[.slice A n c, .func (.func 85) #[] #[]] w fun e w' => ∃ v, e = .returned (.tuple #[v, .int .i64 (if 4000 < n then 4 else 0)]) ∧ Own renc 3 w' w.heap.size 69 v (if 4000 < n then [] else sortL rlt r0 l) ∧ Below w.heap.size w w' := by
  have hclone := fun W h => rclone_any A c n l W hln hz hn h
  have HC := Lib.hid hclone; have HL := Lib.hid hln
  clear hclone hz hln
  by_cases h4 : 4000 < n
  · rw [if_pos h4, if_pos h4]
    have d1 : decide ((4000 : Int) < (n : Int)) = true := by simp; omega
    have d1' : decide (4000 < n) = true := by simp [h4]
    clear h4
    go_enter Try.func84, Try.ntmps84
    go_wp2
    go_ret2
    exact ⟨.slice none 0 0, rfl, Own.nil _ _ _, Below.refl _ _⟩
  · rw [if_neg h4, if_neg h4]
    have d1 : decide ((4000 : Int) < (n : Int)) = false := by simp; omega
    have d1' : decide (4000 < n) = false := by simp [h4]
    go_enter Try.func84, Try.ntmps84
    go_wp2_with fail
    go_at_call 119
    refine (HC.out _ hr).mono ?_
    rintro r w1 ⟨v1, rfl, own1, hb1⟩
    go_wp2_with fail
    go_at_call 120
    refine (rsort_own v1 n w.heap.size l _ HL.out hn own1).mono ?_
    rintro r w2 ⟨rfl, own2, hg2⟩
    have hb2 : Below w.heap.size w w2 := hb1.grown hg2 hb1.size (fun k hk => (World.ownsRow.lt own1 k hk).1)
    clear hg2 own1 hb1
    go_wp2
    go_ret2
    exact ⟨_, rfl, own2, hb2⟩
/-- .. of a row of the call's own, at an address or nil. -/
theorem wsort_own (v : Value) (n base : Nat) (l : List Rw) (w : World) (hl : l.length = n) (hn : n ≤ 1099511627776) (hown : Own wenc 5 w base 72 v l) {b o : Nat} (hb : b < w.heap.size) (hbb : b < base) (hc : w.cell? ⟨b, o, none⟩ = some (.func (.func 88) #[] #[])) :
    Calls Try.prog 123 #[v, .func (.func 90) #[] #[.pointer (some ⟨b, o, none⟩)]] w fun e w' => e = .returned (.tuple #[]) ∧ Own wenc 5 w' base 72 v (sortL wlt w0 l) ∧ w.grownBy w' v.ownBlock := by
  rcases hown.2 with ⟨rfl, h0⟩ | ⟨g, cp, cur, rfl, hbase, _⟩
  · obtain rfl : l = [] := List.eq_nil_of_length_eq_zero h0
    refine (show Calls Try.prog 123 #[.slice none 0 0, .func (.func 90) #[] #[.pointer (some ⟨b, o, none⟩)]] w fun e w' => e = .returned (.tuple #[]) ∧ w' = w from AnyF.slices_SortFunc_none Try.sortRow none 0 _ w).mono ?_
    rintro e w' ⟨he, rfl⟩
    exact ⟨he, Own.nil _ _ _, grown_refl _ _⟩
  · rw [hl] at hown ⊢
    exact sortW_any g n cp base b o l w hl hn hown hb (by omega) hc
set_option maxHeartbeats 2000000 in
set_option maxRecDepth 100000 in
theorem row_sorted_any (A : Option Addr) (c n : Nat) (l : List Rw) (w : World) (hln : l.length = n) (hz : A = none → c = 0) (hn : n ≤ 1099511627776) (hr : Rd wenc 5 w w.heap.size A l) {b o : Nat} (hb : b < w.heap.size) (hc : w.cell? ⟨b, o, none⟩ = some (.func (.func 88) #[] #[])) :
    Calls Try.prog 89 #[.slice A n c, .func (.func 90) #[] #[.pointer (some ⟨b, o, none⟩)]] w fun e w' => ∃ v, e = .returned (.tuple #[v, .int .i64 (if 4000 < n then 4 else 0)]) ∧ Own wenc 5 w' w.heap.size 72 v (if 4000 < n then [] else sortL wlt w0 l) ∧ Below w.heap.size w w' := by
  have hclone := fun W h => wclone_any A c n l W hln hz hn h
  have HC := Lib.hid hclone; have HL := Lib.hid hln
  clear hclone hz hln
  by_cases h4 : 4000 < n
  · rw [if_pos h4, if_pos h4]
    have d1 : decide ((4000 : Int) < (n : Int)) = true := by simp; omega
    have d1' : decide (4000 < n) = true := by simp [h4]
    clear h4
    go_enter Try.func89, Try.ntmps89
    go_wp2
    go_ret2
    exact ⟨.slice none 0 0, rfl, Own.nil _ _ _, Below.refl _ _⟩
  · rw [if_neg h4, if_neg h4]
    have d1 : decide ((4000 : Int) < (n : Int)) = false := by simp; omega
    have d1' : decide (4000 < n) = false := by simp [h4]
    go_enter Try.func89, Try.ntmps89
    go_wp2_with fail
    go_at_call 122
    refine (HC.out _ hr).mono ?_
    rintro r w1 ⟨v1, rfl, own1, hb1⟩
    go_wp2_with fail
    go_at_call 123
    refine (wsort_own v1 n w.heap.size l _ HL.out hn own1 (Nat.lt_of_lt_of_le hb hb1.size) hb ((hb1.cell (p := ⟨b, o, none⟩) hb).trans hc)).mono ?_
    rintro r w2 ⟨rfl, own2, hg2⟩
    have hb2 : Below w.heap.size w w2 := hb1.grown hg2 hb1.size (fun k hk => (World.ownsRow.lt own1 k hk).1)
    clear hg2 own1 hb1
    go_wp2
    go_ret2
    exact ⟨_, rfl, own2, hb2⟩
set_option maxHeartbeats 2000000 in
theorem late_any (A : Option Addr) (c n : Nat) (l : List Rc) (w : World) (hln : l.length = n) (hz : A = none → c = 0) (hn : n ≤ 1099511627776) (hr : Rd renc 3 w w.heap.size A l) :
    Calls Try.prog 47 #[.slice A n c] w fun e w' => ∃ v, e = .returned (.tuple #[v, .int .i64 (if 4000 < n then 4 else 0)]) ∧ Own renc 3 w' w.heap.size 69 v (if 4000 < n then [] else sortL rlt r0 l) ∧ Below w.heap.size w w' := by
  have h := fun W h => rec_sorted_any A c n l W hln hz hn h
  obtain ⟨E, hE⟩ : ∃ E, E = (if 4000 < n then (4 : Int) else 0) := ⟨_, rfl⟩
  obtain ⟨M, hM⟩ : ∃ M, M = (if 4000 < n then [] else sortL rlt r0 l) := ⟨_, rfl⟩
  rw [← hE, ← hM] at h ⊢
  have H := Lib.hid h
  clear h hz hln hE hM
  go_enter Try.func47, Try.ntmps47
  go_wp2_with fail
  go_at_call 84
  refine (H.out _ hr).mono ?_
  rintro r w1 ⟨v1, rfl, own1, hb1⟩
  go_wp2
  go_ret2
  exact ⟨_, rfl, own1, hb1⟩
set_option maxHeartbeats 2000000 in
theorem rows_any (A : Option Addr) (c n : Nat) (l : List Rw) (w : World) (hln : l.length = n) (hz : A = none → c = 0) (hn : n ≤ 1099511627776) (hr : Rd wenc 5 w w.heap.size A l) :
    Calls Try.prog 48 #[.slice A n c] w fun e w' => ∃ v, e = .returned (.tuple #[v, .int .i64 (if 4000 < n then 4 else 0)]) ∧ Own wenc 5 w' w.heap.size 72 v (if 4000 < n then [] else sortL wlt w0 l) ∧ Below w.heap.size w w' := by
  have h := fun (b : Nat) (W : World) h1 h2 h3 => row_sorted_any A c n l W hln hz hn h1 (b := b) (o := 0) h2 h3
  obtain ⟨E, hE⟩ : ∃ E, E = (if 4000 < n then (4 : Int) else 0) := ⟨_, rfl⟩
  obtain ⟨M, hM⟩ : ∃ M, M = (if 4000 < n then [] else sortL wlt w0 l) := ⟨_, rfl⟩
  rw [← hE, ← hM] at h ⊢
  have H := Lib.hid h
  clear h hz hln hE hM
  go_enter Try.func48, Try.ntmps48
  go_wp2_with fail
  go_at_call 89
  refine (H.out w.heap.size _ (rd_grown hr (by repeat (first | with_reducible exact Below.refl _ _ | with_reducible assumption | (with_reducible exact Env.below (by assumption)) | (with_reducible refine below_new ?_ _) | (with_reducible refine below_drew ?_) | (with_reducible refine below_drewN ?_ _) | (with_reducible refine below_put ?_ ?_ _; rotate_left 1; (dsimp only; omega)) | (with_reducible refine below_then ?_ (by assumption))))) (by simp) (by go_simp)).mono ?_
  rintro r w1 ⟨v1, rfl, own1, hb1⟩
  go_wp2
  go_ret2
  exact ⟨_, rfl, own1.mono (by simp), (by repeat (first | with_reducible exact Below.refl _ _ | with_reducible assumption | (with_reducible exact Env.below (by assumption)) | (with_reducible refine below_new ?_ _) | (with_reducible refine below_drew ?_) | (with_reducible refine below_drewN ?_ _) | (with_reducible refine below_put ?_ ?_ _; rotate_left 1; (dsimp only; omega)) | (with_reducible refine below_then ?_ (by assumption))))⟩
/-- Whether two lists of rows are the same multiset. -/
def sameW (l m : List Rw) : Bool := listEq (sortL wlt w0 l) (sortL wlt w0 m)
set_option maxHeartbeats 4000000 in
theorem sinksame_any (A A' : Option Addr) (c c' n n' : Nat) (l m : List Rw) (w : World) (hln : l.length = n) (hlm : m.length = n') (hz : A = none → c = 0) (hz' : A' = none → c' = 0) (hn : n ≤ 1099511627776) (hn' : n' ≤ 1099511627776) (hr : Rd wenc 5 w w.heap.size A l) (hr' : Rd wenc 5 w w.heap.size A' m) :
    Calls Try.prog 49 #[.slice A n c, .slice A' n' c'] w fun e w' => e = .returned (.tuple #[.bool (if 4000 < n ∨ 4000 < n' then false else sameW l m), .int .i64 (if 4000 < n ∨ 4000 < n' then 4 else 0)]) ∧ Below w.heap.size w w' := by
  have h1 := fun W h => rows_any A c n l W hln hz hn h
  have h2 := fun W h => rows_any A' c' n' m W hlm hz' hn' h
  by_cases hA : 4000 < n
  · rw [if_pos (.inl hA), if_pos (.inl hA)]
    rw [if_pos hA, if_pos hA] at h1
    obtain ⟨E, hE⟩ : ∃ E, E = (if 4000 < n' then (4 : Int) else 0) := ⟨_, rfl⟩
    obtain ⟨M, hM⟩ : ∃ M, M = (if 4000 < n' then [] else sortL wlt w0 m) := ⟨_, rfl⟩
    rw [← hE, ← hM] at h2
    have H1 := Lib.hid h1; have H2 := Lib.hid h2
    clear h1 h2 hz hz' hln hlm hE hM hA
    go_enter Try.func49, Try.ntmps49
    go_wp2_with fail
    go_at_call 48
    refine (H1.out _ hr).mono ?_
    rintro r w1 ⟨v1, rfl, own1, hb1⟩
    go_wp2_with fail
    go_at_call 48
    refine (H2.out _ (rd_grown hr' (by repeat (first | with_reducible exact Below.refl _ _ | with_reducible assumption | (with_reducible exact Env.below (by assumption)) | (with_reducible refine below_new ?_ _) | (with_reducible refine below_drew ?_) | (with_reducible refine below_drewN ?_ _) | (with_reducible refine below_put ?_ ?_ _; rotate_left 1; (dsimp only; omega)) | (with_reducible refine below_then ?_ (by assumption)))))).mono ?_
    rintro r w2 ⟨v2, rfl, own2, hb2⟩
    go_wp2
    go_ret2
    exact ⟨rfl, (by repeat (first | with_reducible exact Below.refl _ _ | with_reducible assumption | (with_reducible exact Env.below (by assumption)) | (with_reducible refine below_new ?_ _) | (with_reducible refine below_drew ?_) | (with_reducible refine below_drewN ?_ _) | (with_reducible refine below_put ?_ ?_ _; rotate_left 1; (dsimp only; omega)) | (with_reducible refine below_then ?_ (by assumption))))⟩
  · rw [if_neg hA, if_neg hA] at h1
    by_cases hB : 4000 < n'
    · rw [if_pos (.inr hB), if_pos (.inr hB)]
      rw [if_pos hB, if_pos hB] at h2
      have H1 := Lib.hid h1; have H2 := Lib.hid h2
      clear h1 h2 hz hz' hln hlm hA hB
      go_enter Try.func49, Try.ntmps49
      go_wp2_with fail
      go_at_call 48
      refine (H1.out _ hr).mono ?_
      rintro r w1 ⟨v1, rfl, own1, hb1⟩
      go_wp2_with fail
      go_at_call 48
      refine (H2.out _ (rd_grown hr' (by repeat (first | with_reducible exact Below.refl _ _ | with_reducible assumption | (with_reducible exact Env.below (by assumption)) | (with_reducible refine below_new ?_ _) | (with_reducible refine below_drew ?_) | (with_reducible refine below_drewN ?_ _) | (with_reducible refine below_put ?_ ?_ _; rotate_left 1; (dsimp only; omega)) | (with_reducible refine below_then ?_ (by assumption)))))).mono ?_
      rintro r w2 ⟨v2, rfl, own2, hb2⟩
      go_wp2
      go_ret2
      exact ⟨rfl, (by repeat (first | with_reducible exact Below.refl _ _ | with_reducible assumption | (with_reducible exact Env.below (by assumption)) | (with_reducible refine below_new ?_ _) | (with_reducible refine below_drew ?_) | (with_reducible refine below_drewN ?_ _) | (with_reducible refine below_put ?_ ?_ _; rotate_left 1; (dsimp only; omega)) | (with_reducible refine below_then ?_ (by assumption))))⟩
    · rw [if_neg (by omega), if_neg (by omega)]
      rw [if_neg hB, if_neg hB] at h2
      have hl1 : (sortL wlt w0 l).length = n := by rw [sortL_length wsto, hln]
      have hl2 : (sortL wlt w0 m).length = n' := by rw [sortL_length wsto, hlm]
      obtain ⟨R, hR⟩ : ∃ R, R = sameW l m := ⟨_, rfl⟩
      have heq := fun B d B' d' W h h' => sleq_any B B' d d' n n' (sortL wlt w0 l) (sortL wlt w0 m) W h h' hl1 hl2 (by omega)
      rw [show listEq (sortL wlt w0 l) (sortL wlt w0 m) = R from hR.symm] at heq
      rw [← hR]
      have H1 := Lib.hid h1; have H2 := Lib.hid h2; have HE := Lib.hid heq; have HL1 := Lib.hid hl1; have HL2 := Lib.hid hl2
      clear h1 h2 hz hz' hln hlm hA hB heq hR hl1 hl2
      go_enter Try.func49, Try.ntmps49
      go_wp2_with fail
      go_at_call 48
      refine (H1.out _ hr).mono ?_
      rintro r w1 ⟨v1, rfl, own1, hb1⟩
      obtain ⟨A1, c1, rfl, -, z1⟩ := own_shape_z own1 HL1.out
      go_wp2_with fail
      go_at_call 48
      refine (H2.out _ (rd_grown hr' (by repeat (first | with_reducible exact Below.refl _ _ | with_reducible assumption | (with_reducible exact Env.below (by assumption)) | (with_reducible refine below_new ?_ _) | (with_reducible refine below_drew ?_) | (with_reducible refine below_drewN ?_ _) | (with_reducible refine below_put ?_ ?_ _; rotate_left 1; (dsimp only; omega)) | (with_reducible refine below_then ?_ (by assumption)))))).mono ?_
      rintro r w2 ⟨v2, rfl, own2, hb2⟩
      obtain ⟨A2, c2, rfl, -, z2⟩ := own_shape_z own2 HL2.out
      go_wp2_with fail
      go_at_call 91
      refine (HE.out _ _ _ _ _ (rd_grown (Own.rd wenc_len own1) (by repeat (first | with_reducible exact Below.refl _ _ | with_reducible assumption | (with_reducible exact Env.below (by assumption)) | (with_reducible refine below_new ?_ _) | (with_reducible refine below_drew ?_) | (with_reducible refine below_drewN ?_ _) | (with_reducible refine below_put ?_ ?_ _; rotate_left 1; (dsimp only; omega)) | (with_reducible refine below_then ?_ (by assumption))))) (Own.rd wenc_len own2)).mono ?_
      rintro r w3 ⟨rfl, hb3⟩
      go_wp2
      go_ret2
      exact ⟨rfl, (by repeat (first | with_reducible exact Below.refl _ _ | with_reducible assumption | (with_reducible exact Env.below (by assumption)) | (with_reducible refine below_new ?_ _) | (with_reducible refine below_drew ?_) | (with_reducible refine below_drewN ?_ _) | (with_reducible refine below_put ?_ ?_ _; rotate_left 1; (dsimp only; omega)) | (with_reducible refine below_then ?_ (by assumption))))⟩
end Go.Proofs.Ytffehibdeogjeaa
