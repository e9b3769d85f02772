/- The contracts of session.Add, Of and of the reference's Add (chapter 15). Condition: lists of at most 2^40 spans. -/
import Derived.Test.YtffehibdeogjeaaSessCanon
import Derived.Test.YtffehibdeogjeaaSessWith
namespace Go.Proofs.Ytffehibdeogjeaa
open Go.RowKit

/-- Sessions with one time more. -/
noncomputable def sadd (l : List (Int × Int)) (t g : Int) : List (Int × Int) × Int := if srtB l = false then ([], 8) else if sck t g ≠ 0 then ([], sck t g) else sfew (l ++ [(t, t + g)])
theorem sck_zero {t g : Int} (h : sck t g = 0) : 1 ≤ g ∧ g ≤ 1073741824 ∧ -1099511627776 ≤ t ∧ t ≤ 1099511627776 := by unfold sck at h; grind
theorem sck_some (t g : Int) : sck t g = 0 ∨ sck t g = 2 ∨ sck t g = 16 := by unfold sck; grind
set_option maxHeartbeats 2000000 in
set_option maxRecDepth 100000 in
theorem sadd_any (A : Option Addr) (c n : Nat) (l : List (Int × Int)) (t g : Int) (w : World) (hln : l.length = n) (hz : A = none → c = 0) (hn : n ≤ 1099511627775) (hr : Rd senc 2 w w.heap.size A l) :
    Calls Try.prog 62 #[.slice A n c, .int .i64 t, .int .i64 g] w fun e w' => ∃ v, e = .returned (.tuple #[v, .int .i64 (sadd l t g).2]) ∧ Own senc 2 w' w.heap.size 32 v (sadd l t g).1 ∧ Below w.heap.size w w' := by
  obtain ⟨i0, hi0, hz0, hz1, hz2⟩ := info_parts sp_info
  obtain ⟨B, hB⟩ : ∃ B, B = srtB l := ⟨_, rfl⟩
  obtain ⟨K, hK⟩ : ∃ K, K = sck t g := ⟨_, rfl⟩
  have hright := fun W (h : Rd senc 2 W W.heap.size A l) => sright_any A c n l W hln (by omega) h
  have hclone := fun W (h : Rd senc 2 W W.heap.size A l) => sclone_any A c n l W hln hz (by omega) h
  have hcheck := fun W => scheck_any t g W
  rw [← hB] at hright
  rw [← hK] at hcheck
  have HR := Lib.hid hright; have HC := Lib.hid hclone; have HK := Lib.hid hcheck
  clear hright hclone hcheck hz
  cases B with
  | false =>
    have hs : sadd l t g = ([], 8) := by unfold sadd; rw [← hB, if_pos rfl]
    have HS := Lib.hid hs
    clear hs hB hK hln
    go_enter Try.func62, Try.ntmps62
    go_wp2_with fail
    go_at_call 97
    refine (HR.out _ hr).mono ?_
    rintro r w1 ⟨rfl, hb1⟩
    go_wp2
    go_ret2
    rw [HS.out]
    exact ⟨.slice none 0 0, rfl, Own.nil _ _ _, hb1⟩
  | true =>
    by_cases hk : K = 0
    · obtain ⟨k1, k2, k3, k4⟩ := sck_zero (t := t) (g := g) (by rw [← hK]; exact hk)
      have hs : sadd l t g = sfew (l ++ [(t, t + g)]) := by unfold sadd; rw [← hB, if_neg (by simp), ← hK, if_neg (by simp [hk])]
      obtain ⟨hgood, h4⟩ := good_of_srtB hB.symm
      have hne : ∀ x ∈ l ++ [(t, t + g)], x.1 < x.2 := fun x hx => by
        rcases List.mem_append.1 hx with h | h
        · exact good_mem hgood x h
        · simp at h; subst h; simp only; omega
      have hlen : (l ++ [(t, t + g)]).length = n + 1 := by simp [hln]
      have hfew := fun (A' : Option Addr) (c' : Nat) W (hz' : A' = none → c' = 0) (h : Rd senc 2 W W.heap.size A' (l ++ [(t, t + g)])) => sfew_any A' c' (n + 1) (l ++ [(t, t + g)]) W hlen hz' (by omega) hne h
      have e1 : IntKind.i64.wrap (t + g) = t + g := IntWalk.i64_in _ (by omega)
      have e2 : (K != 0) = false := by simp [hk]
      have HF := Lib.hid hfew; have HS := Lib.hid hs; have HL := Lib.hid hln; have HLN := Lib.hid hlen
      clear hs hB hK hln hgood hne hlen hfew hk
      go_enter Try.func62, Try.ntmps62
      go_wp2_with fail
      go_at_call 97
      refine (HR.out _ hr).mono ?_
      rintro r w1 ⟨rfl, hb1⟩
      go_wp2_with fail
      go_at_call 95
      refine (HK.out _).mono ?_
      rintro r w1' ⟨rfl, rfl⟩
      go_wp2_with fail
      go_at_call 99
      refine (HC.out _ (rd_grown hr hb1)).mono ?_
      rintro r w2 ⟨v2, rfl, own2, hb2⟩
      go_wp2_with (at_builtin; refine wpList_append_elem rfl _ _ 103 rfl w1.heap.size 32 i0 (.agg #[.int .i64 0, .int .i64 0]) 2 16 Try.underlying103 hi0 hz0 hz1 hz2 rfl (by decide) senc senc_len _ l (t, t + g) rfl (own2.alloc (.cells #[.int .i64 t, .int .i64 (t + g)] 32)) ⟨w2.heap.size, 0, none⟩ 1 rfl (by intro j u hj; exact sp_new _ (t, t + g) 32 w2.heap.size rfl j u (by simpa using hj)) (by have := senc_one [(t, t + g)]; simpa using this) (by unfold maxLen; have := HL.out; omega) (by have := HL.out; omega) (by have h2 := hb2.size; rw [World.size_alloc]; omega) ?_; intro v' w7 own7 hgr7 hbel)
      obtain ⟨A7, c7, rfl, -, z7⟩ := own_shape_z own7 HLN.out
      refine (HF.out A7 c7 w7 z7 (Own.rd senc_len own7)).mono ?_
      rintro r w8 ⟨v8, rfl, own8, hb8⟩
      have hb7 : Below w1.heap.size w1 w7 := (hb2.alloc hb2.size _).trans hbel
      go_wp2
      go_ret2
      rw [HS.out]
      exact ⟨_, rfl, own8.mono (Nat.le_trans hb1.size hb7.size), hb1.trans ((hb7.trans (hb8.mono hb7.size)).mono hb1.size)⟩
    · have hs : sadd l t g = ([], K) := by unfold sadd; rw [← hB, if_neg (by simp), ← hK, if_pos hk]
      have e2 : (K != 0) = true := by simp [hk]
      have HS := Lib.hid hs
      clear hs hB hK hln hk
      go_enter Try.func62, Try.ntmps62
      go_wp2_with fail
      go_at_call 97
      refine (HR.out _ hr).mono ?_
      rintro r w1 ⟨rfl, hb1⟩
      go_wp2_with fail
      go_at_call 95
      refine (HK.out _).mono ?_
      rintro r w1' ⟨rfl, rfl⟩
      go_wp2
      go_ret2
      rw [HS.out]
      exact ⟨.slice none 0 0, rfl, Own.nil _ _ _, hb1⟩

set_option maxHeartbeats 2000000 in
set_option maxRecDepth 100000 in
theorem rsadd_any (A : Option Addr) (c n : Nat) (l : List (Int × Int)) (t g : Int) (w : World) (hln : l.length = n) (hn : n ≤ 1099511627775) (hr : Rd senc 2 w w.heap.size A l) :
    Calls Try.prog 65 #[.slice A n c, .int .i64 t, .int .i64 g] w fun e w' => ∃ v, e = .returned (.tuple #[v, .int .i64 (sadd l t g).2]) ∧ Own senc 2 w' w.heap.size 32 v (sadd l t g).1 ∧ Below w.heap.size w w' := by
  obtain ⟨B, hB⟩ : ∃ B, B = srtB l := ⟨_, rfl⟩
  obtain ⟨K, hK⟩ : ∃ K, K = sck t g := ⟨_, rfl⟩
  have hright := fun W (h : Rd senc 2 W W.heap.size A l) => rsright_any A c n l W hln (by omega) h
  have hcheck := fun W => rscheck_any t g W
  rw [← hB] at hright
  rw [← hK] at hcheck
  have HR := Lib.hid hright; have HK := Lib.hid hcheck
  clear hright hcheck
  cases B with
  | false =>
    have hs : sadd l t g = ([], 8) := by unfold sadd; rw [← hB, if_pos rfl]
    have HS := Lib.hid hs
    clear hs hB hK hln
    go_enter Try.func65, Try.ntmps65
    go_wp2_with fail
    go_at_call 60
    refine (HR.out _ hr).mono ?_
    rintro r w1 ⟨rfl, hb1⟩
    go_wp2
    go_ret2
    rw [HS.out]
    exact ⟨.slice none 0 0, rfl, Own.nil _ _ _, hb1⟩
  | true =>
    by_cases hk : K = 0
    · obtain ⟨k1, k2, k3, k4⟩ := sck_zero (t := t) (g := g) (by rw [← hK]; exact hk)
      have hs : sadd l t g = sfew (l ++ [(t, t + g)]) := by unfold sadd; rw [← hB, if_neg (by simp), ← hK, if_neg (by simp [hk])]
      obtain ⟨hgood, h4⟩ := good_of_srtB hB.symm
      have hcw := canon_with (s := (t, t + g)) hgood (by simp only; omega)
      have hwith := fun W (h : Rd senc 2 W W.heap.size A l) => rwith_any A c n l t (t + g) W hln (by omega) h
      rw [← hcw] at hwith
      obtain ⟨M, hM⟩ : ∃ M, M = canon (l ++ [(t, t + g)]) := ⟨_, rfl⟩
      rw [← hM] at hwith
      obtain ⟨m, hm⟩ : ∃ m, M.length = m := ⟨_, rfl⟩
      have hml : m ≤ n + 1 := by have := canon_len (l ++ [(t, t + g)]); rw [← hM] at this; simp at this; omega
      have e1 : IntKind.i64.wrap (t + g) = t + g := IntWalk.i64_in _ (by omega)
      have e2 : (K != 0) = false := by simp [hk]
      have HW := Lib.hid hwith; have HM := Lib.hid hm
      by_cases h9 : 4000 < m
      · have b1 : decide ((4000 : Int) < (m : Int)) = true := by simp; omega
        have b1' : decide (4000 < m) = true := by simp [h9]
        have hs2 : sadd l t g = ([], 4) := by rw [hs]; unfold sfew; rw [← hM, if_pos (by rw [hm]; exact h9)]
        have HS := Lib.hid hs2
        clear hs hs2 hB hK hln hgood hcw hwith hM hk hm h9
        go_enter Try.func65, Try.ntmps65
        go_wp2_with fail
        go_at_call 60
        refine (HR.out _ hr).mono ?_
        rintro r w1 ⟨rfl, hb1⟩
        go_wp2_with fail
        go_at_call 61
        refine (HK.out _).mono ?_
        rintro r w1' ⟨rfl, rfl⟩
        go_wp2_with fail
        go_at_call 100
        refine (HW.out _ (rd_grown hr hb1)).mono ?_
        rintro r w2 ⟨v2, rfl, own2, hb2⟩
        obtain ⟨A2, c2, rfl, -⟩ := own_shape_n own2 HM.out
        go_wp2
        go_ret2
        rw [HS.out]
        exact ⟨.slice none 0 0, rfl, Own.nil _ _ _, hb1.trans (hb2.mono hb1.size)⟩
      · have b1 : decide ((4000 : Int) < (m : Int)) = false := by simp; omega
        have b1' : decide (4000 < m) = false := by simp [h9]
        have hs2 : sadd l t g = (M, 0) := by rw [hs]; unfold sfew; rw [← hM, if_neg (by rw [hm]; exact h9)]
        have HS := Lib.hid hs2
        clear hs hs2 hB hK hln hgood hcw hwith hM hk hm h9
        go_enter Try.func65, Try.ntmps65
        go_wp2_with fail
        go_at_call 60
        refine (HR.out _ hr).mono ?_
        rintro r w1 ⟨rfl, hb1⟩
        go_wp2_with fail
        go_at_call 61
        refine (HK.out _).mono ?_
        rintro r w1' ⟨rfl, rfl⟩
        go_wp2_with fail
        go_at_call 100
        refine (HW.out _ (rd_grown hr hb1)).mono ?_
        rintro r w2 ⟨v2, rfl, own2, hb2⟩
        obtain ⟨A2, c2, rfl, -⟩ := own_shape_n own2 HM.out
        go_wp2
        go_ret2
        rw [HS.out]
        exact ⟨_, rfl, own2.mono hb1.size, hb1.trans (hb2.mono hb1.size)⟩
    · have hs : sadd l t g = ([], K) := by unfold sadd; rw [← hB, if_neg (by simp), ← hK, if_pos hk]
      have e2 : (K != 0) = true := by simp [hk]
      have HS := Lib.hid hs
      clear hs hB hK hln hk
      go_enter Try.func65, Try.ntmps65
      go_wp2_with fail
      go_at_call 60
      refine (HR.out _ hr).mono ?_
      rintro r w1 ⟨rfl, hb1⟩
      go_wp2_with fail
      go_at_call 61
      refine (HK.out _).mono ?_
      rintro r w1' ⟨rfl, rfl⟩
      go_wp2
      go_ret2
      rw [HS.out]
      exact ⟨.slice none 0 0, rfl, Own.nil _ _ _, hb1⟩
end Go.Proofs.Ytffehibdeogjeaa
