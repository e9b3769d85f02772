/- The contracts of slices.Clone over sends, marks, entries and events (chapters 27, 34), printed by wip/gen_taskclone.py. Condition: lists of at most 2^40. -/
import Derived.Test.YtffehibdeogjeaaTaskPlain
import Derived.Test.YtffehibdeogjeaaSinkFuncs
namespace Go.Proofs.Ytffehibdeogjeaa
open Go.RowKit

theorem sdinfo34 : (Try.prog.info? 170).map (fun i => (i.zero, i.size, i.bytes)) = some (some (.agg #[.int .i64 0, .int .u8 0, .int .i64 0, .int .i64 0, .int .i64 0, .int .i64 0, .int .i64 0, .int .i64 0, .int .i64 0, .int .i64 0, .int .i64 0]), 11, 88) := by kernel_rfl
set_option maxHeartbeats 2000000 in
set_option maxRecDepth 100000 in
theorem sdclone_any (A : Option Addr) (c n : Nat) (l : List Sd) (w : World) (hln : l.length = n) (hz : A = none → c = 0) (hn : n ≤ 1099511627776) (hr : Rd sdenc 11 w w.heap.size A l) :
    Calls Try.prog 133 #[.slice A n c] w fun e w' => ∃ v, e = .returned v ∧ Own sdenc 11 w' w.heap.size 170 v l ∧ Below w.heap.size w w' := by
  obtain ⟨i0, hi0, hz0, hz1, hz2⟩ := info_parts sdinfo34
  have HL := Lib.hid hln
  have hu : ∀ (w : World) (a : Option Addr) (n c n' c' : Nat), (binOp .eql 60 (.slice a n c) (.slice none n' c')).run Try.prog w = .ok (.bool a.isNone) w := fun w a n c n' c' => Lib.run_eql_slice_nil w _ _ a n c n' c' Try.underlying60
  cases A with
  | none =>
    obtain rfl := hz rfl
    obtain rfl := rd_none hr
    obtain rfl : n = 0 := hln.symm
    go_enter Try.func133, Try.ntmps133
    go_wp2
    go_ret
    exact ⟨_, rfl, Own.nil _ _ _, (by repeat (first | with_reducible exact Below.refl _ _ | with_reducible assumption | (with_reducible exact Env.below (by assumption)) | (with_reducible refine below_new ?_ _) | (with_reducible refine below_drew ?_) | (with_reducible refine below_drewN ?_ _) | (with_reducible refine below_put ?_ ?_ _; rotate_left 1; (dsimp only; omega)) | (with_reducible refine below_then ?_ (by assumption))))⟩
  | some ad =>
    clear hln
    go_enter Try.func133, Try.ntmps133
    go_wp2_with (at_builtin; refine wpList_append_copy rfl (.tmp 5) (.tmp 6) 60 rfl w.heap.size 170 i0 (.agg #[.int .i64 0, .int .u8 0, .int .i64 0, .int .i64 0, .int .i64 0, .int .i64 0, .int .i64 0, .int .i64 0, .int .i64 0, .int .i64 0, .int .i64 0]) 11 88 Try.underlying60 hi0 hz0 hz1 hz2 rfl (by decide) sdenc sdenc_len w.heap.size 0 l rfl (own_empty (heap_alloc_new w (.cells #[] 170)) (Nat.le_refl _)) (some ad) n c rfl HL.out hz (rd_grown hr (by repeat (first | with_reducible exact Below.refl _ _ | with_reducible assumption | (with_reducible exact Env.below (by assumption)) | (with_reducible refine below_new ?_ _) | (with_reducible refine below_drew ?_) | (with_reducible refine below_drewN ?_ _) | (with_reducible refine below_put ?_ ?_ _; rotate_left 1; (dsimp only; omega)) | (with_reducible refine below_then ?_ (by assumption))))) (sdenc_one l) (by unfold maxLen; omega) (by omega) (by simp) ?_; intro g cap w2 hown2 hcap hg2 hb2)
    go_ret
    exact ⟨_, rfl, hown2, (below_new (Below.refl _ _) _).trans hb2⟩
theorem ienc_len34 (x : Int) : (ienc x).length = 1 := rfl
theorem ienc_one34 (l : List Int) : ∀ u ∈ l.flatMap ienc, u.oneCell' = true := by
  intro u hu
  obtain ⟨x, _, hx⟩ := List.mem_flatMap.1 hu
  simp [ienc] at hx
  subst hx; rfl
theorem mkinfo34 : (Try.prog.info? 2).map (fun i => (i.zero, i.size, i.bytes)) = some (some (.int .i64 0), 1, 8) := by kernel_rfl
set_option maxHeartbeats 2000000 in
set_option maxRecDepth 100000 in
theorem mkclone_any (A : Option Addr) (c n : Nat) (l : List Int) (w : World) (hln : l.length = n) (hz : A = none → c = 0) (hn : n ≤ 1099511627776) (hr : Rd ienc 1 w w.heap.size A l) :
    Calls Try.prog 134 #[.slice A n c] w fun e w' => ∃ v, e = .returned v ∧ Own ienc 1 w' w.heap.size 2 v l ∧ Below w.heap.size w w' := by
  obtain ⟨i0, hi0, hz0, hz1, hz2⟩ := info_parts mkinfo34
  have HL := Lib.hid hln
  have hu : ∀ (w : World) (a : Option Addr) (n c n' c' : Nat), (binOp .eql 61 (.slice a n c) (.slice none n' c')).run Try.prog w = .ok (.bool a.isNone) w := fun w a n c n' c' => Lib.run_eql_slice_nil w _ _ a n c n' c' Try.underlying61
  cases A with
  | none =>
    obtain rfl := hz rfl
    obtain rfl := rd_none hr
    obtain rfl : n = 0 := hln.symm
    go_enter Try.func134, Try.ntmps134
    go_wp2
    go_ret
    exact ⟨_, rfl, Own.nil _ _ _, (by repeat (first | with_reducible exact Below.refl _ _ | with_reducible assumption | (with_reducible exact Env.below (by assumption)) | (with_reducible refine below_new ?_ _) | (with_reducible refine below_drew ?_) | (with_reducible refine below_drewN ?_ _) | (with_reducible refine below_put ?_ ?_ _; rotate_left 1; (dsimp only; omega)) | (with_reducible refine below_then ?_ (by assumption))))⟩
  | some ad =>
    clear hln
    go_enter Try.func134, Try.ntmps134
    go_wp2_with (at_builtin; refine wpList_append_copy rfl (.tmp 5) (.tmp 6) 61 rfl w.heap.size 2 i0 (.int .i64 0) 1 8 Try.underlying61 hi0 hz0 hz1 hz2 rfl (by decide) ienc ienc_len34 w.heap.size 0 l rfl (own_empty (heap_alloc_new w (.cells #[] 2)) (Nat.le_refl _)) (some ad) n c rfl HL.out hz (rd_grown hr (by repeat (first | with_reducible exact Below.refl _ _ | with_reducible assumption | (with_reducible exact Env.below (by assumption)) | (with_reducible refine below_new ?_ _) | (with_reducible refine below_drew ?_) | (with_reducible refine below_drewN ?_ _) | (with_reducible refine below_put ?_ ?_ _; rotate_left 1; (dsimp only; omega)) | (with_reducible refine below_then ?_ (by assumption))))) (ienc_one34 l) (by unfold maxLen; omega) (by omega) (by simp) ?_; intro g cap w2 hown2 hcap hg2 hb2)
    go_ret
    exact ⟨_, rfl, hown2, (below_new (Below.refl _ _) _).trans hb2⟩
theorem eninfo34 : (Try.prog.info? 131).map (fun i => (i.zero, i.size, i.bytes)) = some (some (.agg #[.int .i64 0, .int .i64 0, .int .i64 0, .int .i64 0, .int .i64 0, .int .i64 0, .int .i64 0, .int .i64 0, .int .i64 0, .int .i64 0, .int .i64 0]), 11, 88) := by kernel_rfl
set_option maxHeartbeats 2000000 in
set_option maxRecDepth 100000 in
theorem enclone_any (A : Option Addr) (c n : Nat) (l : List En) (w : World) (hln : l.length = n) (hz : A = none → c = 0) (hn : n ≤ 1099511627776) (hr : Rd enenc 11 w w.heap.size A l) :
    Calls Try.prog 135 #[.slice A n c] w fun e w' => ∃ v, e = .returned v ∧ Own enenc 11 w' w.heap.size 131 v l ∧ Below w.heap.size w w' := by
  obtain ⟨i0, hi0, hz0, hz1, hz2⟩ := info_parts eninfo34
  have HL := Lib.hid hln
  have hu : ∀ (w : World) (a : Option Addr) (n c n' c' : Nat), (binOp .eql 62 (.slice a n c) (.slice none n' c')).run Try.prog w = .ok (.bool a.isNone) w := fun w a n c n' c' => Lib.run_eql_slice_nil w _ _ a n c n' c' Try.underlying62
  cases A with
  | none =>
    obtain rfl := hz rfl
    obtain rfl := rd_none hr
    obtain rfl : n = 0 := hln.symm
    go_enter Try.func135, Try.ntmps135
    go_wp2
    go_ret
    exact ⟨_, rfl, Own.nil _ _ _, (by repeat (first | with_reducible exact Below.refl _ _ | with_reducible assumption | (with_reducible exact Env.below (by assumption)) | (with_reducible refine below_new ?_ _) | (with_reducible refine below_drew ?_) | (with_reducible refine below_drewN ?_ _) | (with_reducible refine below_put ?_ ?_ _; rotate_left 1; (dsimp only; omega)) | (with_reducible refine below_then ?_ (by assumption))))⟩
  | some ad =>
    clear hln
    go_enter Try.func135, Try.ntmps135
    go_wp2_with (at_builtin; refine wpList_append_copy rfl (.tmp 5) (.tmp 6) 62 rfl w.heap.size 131 i0 (.agg #[.int .i64 0, .int .i64 0, .int .i64 0, .int .i64 0, .int .i64 0, .int .i64 0, .int .i64 0, .int .i64 0, .int .i64 0, .int .i64 0, .int .i64 0]) 11 88 Try.underlying62 hi0 hz0 hz1 hz2 rfl (by decide) enenc enenc_len w.heap.size 0 l rfl (own_empty (heap_alloc_new w (.cells #[] 131)) (Nat.le_refl _)) (some ad) n c rfl HL.out hz (rd_grown hr (by repeat (first | with_reducible exact Below.refl _ _ | with_reducible assumption | (with_reducible exact Env.below (by assumption)) | (with_reducible refine below_new ?_ _) | (with_reducible refine below_drew ?_) | (with_reducible refine below_drewN ?_ _) | (with_reducible refine below_put ?_ ?_ _; rotate_left 1; (dsimp only; omega)) | (with_reducible refine below_then ?_ (by assumption))))) (enenc_one l) (by unfold maxLen; omega) (by omega) (by simp) ?_; intro g cap w2 hown2 hcap hg2 hb2)
    go_ret
    exact ⟨_, rfl, hown2, (below_new (Below.refl _ _) _).trans hb2⟩
theorem evinfo34 : (Try.prog.info? 140).map (fun i => (i.zero, i.size, i.bytes)) = some (some (.agg #[.bool false, .int .i64 0, .int .i64 0, .int .i64 0, .int .i64 0]), 5, 40) := by kernel_rfl
set_option maxHeartbeats 2000000 in
set_option maxRecDepth 100000 in
theorem evclone_any (A : Option Addr) (c n : Nat) (l : List Ev) (w : World) (hln : l.length = n) (hz : A = none → c = 0) (hn : n ≤ 1099511627776) (hr : Rd evenc 5 w w.heap.size A l) :
    Calls Try.prog 136 #[.slice A n c] w fun e w' => ∃ v, e = .returned v ∧ Own evenc 5 w' w.heap.size 140 v l ∧ Below w.heap.size w w' := by
  obtain ⟨i0, hi0, hz0, hz1, hz2⟩ := info_parts evinfo34
  have HL := Lib.hid hln
  have hu : ∀ (w : World) (a : Option Addr) (n c n' c' : Nat), (binOp .eql 63 (.slice a n c) (.slice none n' c')).run Try.prog w = .ok (.bool a.isNone) w := fun w a n c n' c' => Lib.run_eql_slice_nil w _ _ a n c n' c' Try.underlying63
  cases A with
  | none =>
    obtain rfl := hz rfl
    obtain rfl := rd_none hr
    obtain rfl : n = 0 := hln.symm
    go_enter Try.func136, Try.ntmps136
    go_wp2
    go_ret
    exact ⟨_, rfl, Own.nil _ _ _, (by repeat (first | with_reducible exact Below.refl _ _ | with_reducible assumption | (with_reducible exact Env.below (by assumption)) | (with_reducible refine below_new ?_ _) | (with_reducible refine below_drew ?_) | (with_reducible refine below_drewN ?_ _) | (with_reducible refine below_put ?_ ?_ _; rotate_left 1; (dsimp only; omega)) | (with_reducible refine below_then ?_ (by assumption))))⟩
  | some ad =>
    clear hln
    go_enter Try.func136, Try.ntmps136
    go_wp2_with (at_builtin; refine wpList_append_copy rfl (.tmp 5) (.tmp 6) 63 rfl w.heap.size 140 i0 (.agg #[.bool false, .int .i64 0, .int .i64 0, .int .i64 0, .int .i64 0]) 5 40 Try.underlying63 hi0 hz0 hz1 hz2 rfl (by decide) evenc evenc_len w.heap.size 0 l rfl (own_empty (heap_alloc_new w (.cells #[] 140)) (Nat.le_refl _)) (some ad) n c rfl HL.out hz (rd_grown hr (by repeat (first | with_reducible exact Below.refl _ _ | with_reducible assumption | (with_reducible exact Env.below (by assumption)) | (with_reducible refine below_new ?_ _) | (with_reducible refine below_drew ?_) | (with_reducible refine below_drewN ?_ _) | (with_reducible refine below_put ?_ ?_ _; rotate_left 1; (dsimp only; omega)) | (with_reducible refine below_then ?_ (by assumption))))) (evenc_one l) (by unfold maxLen; omega) (by omega) (by simp) ?_; intro g cap w2 hown2 hcap hg2 hb2)
    go_ret
    exact ⟨_, rfl, hown2, (below_new (Below.refl _ _) _).trans hb2⟩
end Go.Proofs.Ytffehibdeogjeaa
