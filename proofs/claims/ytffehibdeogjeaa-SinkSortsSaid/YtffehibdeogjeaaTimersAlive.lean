/- Chapter 18: plain facts of heaps of valid timers, and the contract of the laws' example (alive). No condition. -/
import Derived.Test.YtffehibdeogjeaaTimersHelp
namespace Go.Proofs.Ytffehibdeogjeaa
open Go.RowKit

theorem tck_ok {l : List Tm} (h : thv l) (hl : l.length ≤ 4000) : tck l = 0 := by unfold tck; rw [if_neg (by omega), if_pos h]
theorem tck_zero {l : List Tm} (h : tck l = 0) : thv l ∧ l.length ≤ 4000 := by
  unfold tck at h
  split at h
  · cases h
  · split at h
    · exact ⟨by assumption, by omega⟩
    · cases h
theorem thv_nil : thv [] := ⟨by simp, fun k _ hk => by simp at hk⟩
theorem thv_push {l : List Tm} {x : Tm} (h : thv l) (hx : tok x) : thv (pushL tlt t0 l x) :=
  ⟨fun t ht => by
    have := (pushL_perm tlt t0 l x).mem_iff.1 ht
    rcases List.mem_append.1 this with h' | h'
    · exact h.1 t h'
    · simp at h'; exact h' ▸ hx, pushL_heap tsto t0 l x h.2⟩
theorem thv_pop {l : List Tm} (h : thv l) : thv (popL tlt t0 l) := by
  by_cases hl : l = []
  · subst hl; exact thv_nil
  · exact ⟨fun t ht => h.1 t ((popL_perm tlt t0 l hl).mem_iff.1 (List.mem_cons_of_mem _ ht)), popL_heap tsto t0 l h.2⟩
theorem tpush_ok {l : List Tm} {x : Tm} (h : thv l) (hl : l.length < 4000) (hx : tok x) : tpush l x = (pushL tlt t0 l x, 0) := by
  unfold tpush; rw [if_neg (by rw [tck_ok h (by omega)]; simp), if_neg (by simp [hx]), if_neg (by omega)]
theorem tpopl_ok {l : List Tm} (h : thv l) (hl : l.length ≤ 4000) (hne : l.length ≠ 0) : tpopl l = (l.getD 0 t0, popL tlt t0 l, 0) := by
  unfold tpopl; rw [if_neg (by rw [tck_ok h hl]; simp), if_neg hne]
theorem tuntil_ok {l : List Tm} (mark : Int) (h : thv l) (hl : l.length ≤ 4000) : tuntil l mark = ((untilL tlt t0 (fun t => decide (t.e ≤ mark)) l.length l).1, (untilL tlt t0 (fun t => decide (t.e ≤ mark)) l.length l).2, 0) := by
  unfold tuntil; rw [if_neg (by rw [tck_ok h hl]; simp)]
theorem pushGo_ok : ∀ (xs h : List Tm), thv h → (∀ t ∈ xs, tok t) → h.length + xs.length ≤ 4000 →
    pushGo h xs = (xs.foldl (pushL tlt t0) h, true) ∧ thv (xs.foldl (pushL tlt t0) h) ∧ (xs.foldl (pushL tlt t0) h).Perm (h ++ xs)
  | [], h, hv, _, _ => ⟨rfl, hv, by simp⟩
  | x :: xs, h, hv, hx, hl => by
    simp only [List.length_cons] at hl
    obtain ⟨h1, h2, h3⟩ := pushGo_ok xs (pushL tlt t0 h x) (thv_push hv (hx x (by simp))) (fun t ht => hx t (by simp [ht])) (by rw [pushL_length]; omega)
    rw [pushGo, tpush_ok hv (by omega) (hx x (by simp)), if_pos rfl, List.foldl_cons]
    refine ⟨h1, h2, h3.trans ?_⟩
    exact ((pushL_perm tlt t0 h x).append_right xs).trans (by simp)

def alL : List Tm := [⟨0, 30, 1⟩, ⟨0, 10, 2⟩, ⟨0, 20, 3⟩, ⟨0, 10, 4⟩]
def alH : List Tm := [⟨0, 10, 2⟩, ⟨0, 10, 4⟩, ⟨0, 20, 3⟩, ⟨0, 30, 1⟩]
theorem alGo : pushGo [] alL = (alH, true) := by
  have h := pushGo_ok alL [] thv_nil (by intro t ht; simp [alL] at ht; rcases ht with rfl | rfl | rfl | rfl <;> simp [tok]) (by decide)
  rw [h.1]
  have e : alL.foldl (pushL tlt t0) [] = alH := by decide +kernel
  rw [e]
theorem alV : thv alH := by
  have h := pushGo_ok alL [] thv_nil (by intro t ht; simp [alL] at ht; rcases ht with rfl | rfl | rfl | rfl <;> simp [tok]) (by decide)
  have e : alL.foldl (pushL tlt t0) [] = alH := by decide +kernel
  rw [e] at h
  exact h.2.1
theorem alU : tuntil alH 20 = ([⟨0, 10, 2⟩, ⟨0, 10, 4⟩, ⟨0, 20, 3⟩], [⟨0, 30, 1⟩], 0) := by
  rw [tuntil_ok 20 alV (by decide)]
  have e : untilL tlt t0 (fun t => decide (t.e ≤ 20)) alH.length alH = ([⟨0, 10, 2⟩, ⟨0, 10, 4⟩, ⟨0, 20, 3⟩], [⟨0, 30, 1⟩]) := by decide +kernel
  rw [e]

theorem rd_alL (w : World) : Rd tenc 3 (w.alloc (.cells #[.int .i64 0, .int .i64 30, .int .i64 1, .int .i64 0, .int .i64 10, .int .i64 2, .int .i64 0, .int .i64 20, .int .i64 3, .int .i64 0, .int .i64 10, .int .i64 4] 34)) (w.alloc (.cells #[.int .i64 0, .int .i64 30, .int .i64 1, .int .i64 0, .int .i64 10, .int .i64 2, .int .i64 0, .int .i64 20, .int .i64 3, .int .i64 0, .int .i64 10, .int .i64 4] 34)).heap.size (some ⟨w.heap.size, 0, none⟩) alL :=
  Own.rd tenc_len (Own.made tenc_len w w.heap.size 34 alL w.heap.size rfl (Nat.le_refl _) (by decide))
theorem rd_k4 (w : World) : Rd ienc 1 (w.alloc (.cells #[.int .i64 2, .int .i64 4, .int .i64 3, .int .i64 1] 2)) (w.heap.size + 1) (some ⟨w.heap.size, 0, none⟩) [2, 4, 3, 1] := rd_new w [2, 4, 3, 1] _
theorem rd_k3 (w : World) : Rd ienc 1 (w.alloc (.cells #[.int .i64 2, .int .i64 4, .int .i64 3] 2)) (w.heap.size + 1) (some ⟨w.heap.size, 0, none⟩) [2, 4, 3] := rd_new w [2, 4, 3] _
theorem rd_k1 (w : World) : Rd ienc 1 (w.alloc (.cells #[.int .i64 1] 2)) (w.heap.size + 1) (some ⟨w.heap.size, 0, none⟩) [1] := rd_new w [1] _
theorem pushed_alL (w : World) : Calls Try.prog 38 #[.slice (some ⟨w.heap.size, 0, none⟩) 4 4] (w.alloc (.cells #[.int .i64 0, .int .i64 30, .int .i64 1, .int .i64 0, .int .i64 10, .int .i64 2, .int .i64 0, .int .i64 20, .int .i64 3, .int .i64 0, .int .i64 10, .int .i64 4] 34)) fun e w' => ∃ A c, e = .returned (.tuple #[.slice A 4 c, .bool true]) ∧ Own tenc 3 w' w.heap.size 34 (.slice A 4 c) alH ∧ Below (w.alloc (.cells #[.int .i64 0, .int .i64 30, .int .i64 1, .int .i64 0, .int .i64 10, .int .i64 2, .int .i64 0, .int .i64 20, .int .i64 3, .int .i64 0, .int .i64 10, .int .i64 4] 34)).heap.size (w.alloc (.cells #[.int .i64 0, .int .i64 30, .int .i64 1, .int .i64 0, .int .i64 10, .int .i64 2, .int .i64 0, .int .i64 20, .int .i64 3, .int .i64 0, .int .i64 10, .int .i64 4] 34)) w' := by
  refine (pushed_any _ _ 4 alL _ rfl (rd_alL w) (by omega)).mono ?_
  rw [alGo]
  rintro e w' ⟨v, rfl, h1, h2⟩
  obtain ⟨A, c, rfl⟩ : ∃ A c, v = .slice A 4 c := own_shape h1
  exact ⟨A, c, rfl, h1.mono (by simp), h2⟩
theorem until_alH (A : Option Addr) (c : Nat) (w : World) (hr : Rd tenc 3 w w.heap.size A alH) : Calls Try.prog 23 #[.slice A 4 c, .int .i64 20] w fun e w' => ∃ A1 c1 A2 c2, e = .returned (.tuple #[.slice A1 3 c1, .slice A2 1 c2, .int .i64 0]) ∧
    Own tenc 3 w' w.heap.size 34 (.slice A1 3 c1) [⟨0, 10, 2⟩, ⟨0, 10, 4⟩, ⟨0, 20, 3⟩] ∧ Own tenc 3 w' w.heap.size 34 (.slice A2 1 c2) [⟨0, 30, 1⟩] ∧ Below w.heap.size w w' := by
  refine (tuntil_any A c alH 20 w (by decide) hr).mono ?_
  rw [alU]
  rintro e w' ⟨v, u, rfl, h1, h2, h3⟩
  obtain ⟨A1, c1, rfl⟩ : ∃ A c, v = .slice A 3 c := own_shape h1
  obtain ⟨A2, c2, rfl⟩ : ∃ A c, u = .slice A 1 c := own_shape h2
  exact ⟨A1, c1, A2, c2, rfl, h1, h2, h3⟩
theorem keys_is (A A' : Option Addr) (c c' n : Nat) (l : List Tm) (ks : List Int) (w : World) {B B' : Nat} (hln : l.length = n) (hkn : ks.length = n) (he : l.map Tm.k = ks) (hl : Rd tenc 3 w B A l) (hk : Rd ienc 1 w B' A' ks) (hn : n ≤ 1099511627776) :
    Calls Try.prog 36 #[.slice A n c, .slice A' n c'] w fun e w' => e = .returned (.bool true) ∧ Below w.heap.size w w' := by
  have h := keys_any A A' c c' n n l ks w hln hkn hl hk hn
  rw [show decide (l.map Tm.k = ks) = true by simp [he]] at h
  exact h

set_option maxHeartbeats 8000000 in
set_option maxRecDepth 100000 in
theorem alive18 (w : World) : Calls Try.prog 21 #[] w fun e w' => e = .returned (.bool true) ∧ Below w.heap.size w w' := by
  go_enter Try.func21, Try.ntmps21
  go_wp2_with (first
    | (go_at_call 35; refine (at_any _ _ _).mono ?_; rintro r w1 ⟨rfl, hb1⟩)
    | (go_at_call 38; refine (pushed_alL _).mono ?_; rintro r w5 ⟨A5, c5, rfl, hown5, hb5⟩)
    | (go_at_call 23; refine (until_alH _ _ _ (Own.rd tenc_len hown5)).mono ?_; rintro r w6 ⟨A6, c6, Au6, cu6, rfl, hown6, hownu6, hb6⟩; have hown56 := hown5.below hb6))
  go_at_call 36
  refine (keys_is _ _ _ _ 4 alH [2, 4, 3, 1] _ rfl rfl rfl (Own.rd tenc_len (hown56.alloc _)) (rd_k4 w6) (by omega)).mono ?_
  rintro r w7 ⟨rfl, hb7⟩
  have hown7 := (hown6.alloc (.cells #[.int .i64 2, .int .i64 4, .int .i64 3, .int .i64 1] 2)).below hb7
  have hownu7 := (hownu6.alloc (.cells #[.int .i64 2, .int .i64 4, .int .i64 3, .int .i64 1] 2)).below hb7
  clear hown5 hown56
  go_wp2_with fail
  go_at_call 36
  refine (keys_is _ _ _ _ 3 [⟨0, 10, 2⟩, ⟨0, 10, 4⟩, ⟨0, 20, 3⟩] [2, 4, 3] _ rfl rfl rfl (Own.rd tenc_len (hown7.alloc _)) (rd_k3 w7) (by omega)).mono ?_
  rintro r w8 ⟨rfl, hb8⟩
  have hownu8 := (hownu7.alloc (.cells #[.int .i64 2, .int .i64 4, .int .i64 3] 2)).below hb8
  clear hown7 hownu7 hown6 hownu6
  go_wp2_with fail
  go_at_call 36
  refine (keys_is _ _ _ _ 1 [⟨0, 30, 1⟩] [1] _ rfl rfl rfl (Own.rd tenc_len (hownu8.alloc _)) (rd_k1 w8) (by omega)).mono ?_
  rintro r w9 ⟨rfl, hb9⟩
  go_wp2
  go_ret
  exact ⟨rfl, (by repeat (first | with_reducible exact Below.refl _ _ | with_reducible assumption | (with_reducible exact Env.below (by assumption)) | (with_reducible refine below_new ?_ _) | (with_reducible refine below_drew ?_) | (with_reducible refine below_drewN ?_ _) | (with_reducible refine below_put ?_ ?_ _; rotate_left 1; (dsimp only; omega)) | (with_reducible refine below_then ?_ (by assumption))))⟩
end Go.Proofs.Ytffehibdeogjeaa
