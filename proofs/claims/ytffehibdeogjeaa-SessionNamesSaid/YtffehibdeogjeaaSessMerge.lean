/- The contracts of session.Merge and of the reference's Merge (chapter 15). Condition: lists of at most 2^38 spans. -/
import Derived.Test.YtffehibdeogjeaaSessConcat
import Derived.Test.YtffehibdeogjeaaSessWith
namespace Go.Proofs.Ytffehibdeogjeaa
open Go.RowKit

/-- The sessions of two lists together. -/
noncomputable def smerge (l m : List (Int × Int)) : List (Int × Int) × Int := if srtB l = false then ([], 8) else if srtB m = false then ([], 8) else sfew (l ++ m)
set_option maxHeartbeats 4000000 in
set_option maxRecDepth 100000 in
theorem smerge_any (A1 A2 : Option Addr) (c1 c2 n1 n2 : Nat) (l1 l2 : List (Int × Int)) (w : World) (hl1 : l1.length = n1) (hl2 : l2.length = n2) (z1 : A1 = none → c1 = 0) (z2 : A2 = none → c2 = 0) (hn1 : n1 ≤ 274877906944) (hn2 : n2 ≤ 274877906944)
    (hr1 : Rd senc 2 w w.heap.size A1 l1) (hr2 : Rd senc 2 w w.heap.size A2 l2) :
    Calls Try.prog 67 #[.slice A1 n1 c1, .slice A2 n2 c2] w fun e w' => ∃ v, e = .returned (.tuple #[v, .int .i64 (smerge l1 l2).2]) ∧ Own senc 2 w' w.heap.size 32 v (smerge l1 l2).1 ∧ Below w.heap.size w w' := by
  obtain ⟨B, hB⟩ : ∃ B, B = srtB l1 := ⟨_, rfl⟩
  obtain ⟨D, hD⟩ : ∃ D, D = srtB l2 := ⟨_, rfl⟩
  have hright1 := fun W (h : Rd senc 2 W W.heap.size A1 l1) => sright_any A1 c1 n1 l1 W hl1 (by omega) h
  have hright2 := fun W (h : Rd senc 2 W W.heap.size A2 l2) => sright_any A2 c2 n2 l2 W hl2 (by omega) h
  rw [← hB] at hright1
  rw [← hD] at hright2
  have HR1 := Lib.hid hright1; have HR2 := Lib.hid hright2
  clear hright1 hright2
  cases B with
  | false =>
    have hs : smerge l1 l2 = ([], 8) := by unfold smerge; rw [← hB, if_pos rfl]
    have HS := Lib.hid hs
    clear hs hB hD hl1 hl2 z1 z2
    go_enter Try.func67, Try.ntmps67
    go_wp2_with fail
    go_at_call 97
    refine (HR1.out _ hr1).mono ?_
    rintro r w1 ⟨rfl, hb1⟩
    go_wp2
    go_ret2
    rw [HS.out]
    exact ⟨.slice none 0 0, rfl, Own.nil _ _ _, hb1⟩
  | true =>
    cases D with
    | false =>
      have hs : smerge l1 l2 = ([], 8) := by unfold smerge; rw [← hB, if_neg (by simp), ← hD, if_pos rfl]
      have HS := Lib.hid hs
      clear hs hB hD hl1 hl2 z1 z2
      go_enter Try.func67, Try.ntmps67
      go_wp2_with fail
      go_at_call 97
      refine (HR1.out _ hr1).mono ?_
      rintro r w1 ⟨rfl, hb1⟩
      go_wp2_with fail
      go_at_call 97
      refine (HR2.out _ (rd_grown hr2 hb1)).mono ?_
      rintro r w2 ⟨rfl, hb2⟩
      go_wp2
      go_ret2
      rw [HS.out]
      exact ⟨.slice none 0 0, rfl, Own.nil _ _ _, hb1.trans (hb2.mono hb1.size)⟩
    | true =>
      have hs : smerge l1 l2 = sfew (l1 ++ l2) := by unfold smerge; rw [← hB, if_neg (by simp), ← hD, if_neg (by simp)]
      obtain ⟨hg1, -⟩ := good_of_srtB hB.symm
      obtain ⟨hg2, -⟩ := good_of_srtB hD.symm
      have hne : ∀ x ∈ l1 ++ l2, x.1 < x.2 := fun x hx => (List.mem_append.1 hx).elim (good_mem hg1 x) (good_mem hg2 x)
      have hlen : (l1 ++ l2).length = n1 + n2 := by simp [hl1, hl2]
      have hfew := fun (A' : Option Addr) (c' : Nat) W (hz' : A' = none → c' = 0) (h : Rd senc 2 W W.heap.size A' (l1 ++ l2)) => sfew_any A' c' (n1 + n2) (l1 ++ l2) W hlen hz' (by omega) hne h
      have hcc := fun (W : World) (b : Nat) (hb : b < W.heap.size) (f1 : W.cell? ⟨b, 0, none⟩ = some (.slice A1 n1 c1)) (f2 : W.cell? ⟨b, 1, none⟩ = some (.slice A2 n2 c2)) (h1 : Rd senc 2 W W.heap.size A1 l1) (h2 : Rd senc 2 W W.heap.size A2 l2) => sconcat_any A1 A2 c1 c2 n1 n2 l1 l2 W b hb f1 f2 hl1 hl2 z1 z2 (by omega) (by omega) h1 h2
      have HF := Lib.hid hfew; have HS := Lib.hid hs; have HLN := Lib.hid hlen; have HC := Lib.hid hcc
      clear hs hB hD hl1 hl2 z1 z2 hg1 hg2 hne hlen hfew hcc
      go_enter Try.func67, Try.ntmps67
      go_wp2_with fail
      go_at_call 97
      refine (HR1.out _ hr1).mono ?_
      rintro r w1 ⟨rfl, hb1⟩
      go_wp2_with fail
      go_at_call 97
      refine (HR2.out _ (rd_grown hr2 hb1)).mono ?_
      rintro r w2 ⟨rfl, hb2⟩
      have hb12 := hb1.trans (hb2.mono hb1.size)
      go_wp2_with fail
      go_at_call 101
      refine (HC.out _ w2.heap.size (by simp) (by simp) (by simp) (rd_grown hr1 (by repeat (first | with_reducible exact Below.refl _ _ | with_reducible assumption | (with_reducible exact Env.below (by assumption)) | (with_reducible refine below_new ?_ _) | (with_reducible refine below_drew ?_) | (with_reducible refine below_drewN ?_ _) | (with_reducible refine below_put ?_ ?_ _; rotate_left 1; (dsimp only; omega)) | (with_reducible refine below_then ?_ (by assumption))))) (rd_grown hr2 (by repeat (first | with_reducible exact Below.refl _ _ | with_reducible assumption | (with_reducible exact Env.below (by assumption)) | (with_reducible refine below_new ?_ _) | (with_reducible refine below_drew ?_) | (with_reducible refine below_drewN ?_ _) | (with_reducible refine below_put ?_ ?_ _; rotate_left 1; (dsimp only; omega)) | (with_reducible refine below_then ?_ (by assumption)))))).mono ?_
      rintro r w3 ⟨v3, rfl, own3, hb3⟩
      obtain ⟨A3, c3, hv, -, z3⟩ := own_shape_z own3 HLN.out
      subst hv
      have HZ := Lib.hid z3
      clear z3
      go_wp2_with fail
      go_at_call 98
      refine (HF.out A3 c3 _ HZ.out (Own.rd senc_len own3)).mono ?_
      rintro r w4 ⟨v4, rfl, own4, hb4⟩
      have hb3' : Below w.heap.size w w3 := (hb12.alloc hb12.size _).trans (hb3.mono (hb12.alloc hb12.size _).size)
      go_wp2
      go_ret2
      rw [HS.out]
      exact ⟨_, rfl, own4.mono hb3'.size, hb3'.trans (hb4.mono hb3'.size)⟩

theorem mfold_snoc (l ms : List (Int × Int)) (k : Nat) (x : Int × Int) (hx : ms[k]? = some x) : (ms.take (k + 1)).foldl withS l = withS ((ms.take k).foldl withS l) x := by
  rw [List.take_add_one, hx]
  simp
theorem mfold_len {l ms : List (Int × Int)} (hg : Good l) (hm : ∀ x ∈ ms, x.1 < x.2) (k : Nat) : ((ms.take k).foldl withS l).length ≤ l.length + k := by
  rw [← canon_fold hg (fun x hx => hm x (List.mem_of_mem_take hx))]
  have h1 := canon_len (l ++ ms.take k)
  simp at h1
  omega
set_option maxHeartbeats 4000000 in
set_option maxRecDepth 100000 in
theorem rsmerge_any (A1 A2 : Option Addr) (c1 c2 n1 n2 : Nat) (l1 l2 : List (Int × Int)) (w : World) (hl1 : l1.length = n1) (hl2 : l2.length = n2) (z1 : A1 = none → c1 = 0) (hn1 : n1 ≤ 274877906944) (hn2 : n2 ≤ 274877906944)
    (hr1 : Rd senc 2 w w.heap.size A1 l1) (hr2 : Rd senc 2 w w.heap.size A2 l2) :
    Calls Try.prog 68 #[.slice A1 n1 c1, .slice A2 n2 c2] w fun e w' => ∃ v, e = .returned (.tuple #[v, .int .i64 (smerge l1 l2).2]) ∧ Own senc 2 w' w.heap.size 32 v (smerge l1 l2).1 ∧ Below w.heap.size w w' := by
  obtain ⟨i0, hi0, hz0, hz1, hz2⟩ := info_parts sp_info
  obtain ⟨B, hB⟩ : ∃ B, B = srtB l1 := ⟨_, rfl⟩
  obtain ⟨D, hD⟩ : ∃ D, D = srtB l2 := ⟨_, rfl⟩
  have hright1 := fun W (h : Rd senc 2 W W.heap.size A1 l1) => rsright_any A1 c1 n1 l1 W hl1 (by omega) h
  have hright2 := fun W (h : Rd senc 2 W W.heap.size A2 l2) => rsright_any A2 c2 n2 l2 W hl2 (by omega) h
  rw [← hB] at hright1
  rw [← hD] at hright2
  have HR1 := Lib.hid hright1; have HR2 := Lib.hid hright2
  clear hright1 hright2
  cases B with
  | false =>
    have hs : smerge l1 l2 = ([], 8) := by unfold smerge; rw [← hB, if_pos rfl]
    have HS := Lib.hid hs
    clear hs hB hD hl1 hl2 z1
    go_enter Try.func68, Try.ntmps68
    go_wp2_with fail
    go_at_call 60
    refine (HR1.out _ hr1).mono ?_
    rintro r w1 ⟨rfl, hb1⟩
    go_wp2
    go_ret2
    rw [HS.out]
    exact ⟨.slice none 0 0, rfl, Own.nil _ _ _, hb1⟩
  | true =>
    cases D with
    | false =>
      have hs : smerge l1 l2 = ([], 8) := by unfold smerge; rw [← hB, if_neg (by simp), ← hD, if_pos rfl]
      have HS := Lib.hid hs
      clear hs hB hD hl1 hl2 z1
      go_enter Try.func68, Try.ntmps68
      go_wp2_with fail
      go_at_call 60
      refine (HR1.out _ hr1).mono ?_
      rintro r w1 ⟨rfl, hb1⟩
      go_wp2_with fail
      go_at_call 60
      refine (HR2.out _ (rd_grown hr2 hb1)).mono ?_
      rintro r w2 ⟨rfl, hb2⟩
      go_wp2
      go_ret2
      rw [HS.out]
      exact ⟨.slice none 0 0, rfl, Own.nil _ _ _, hb1.trans (hb2.mono hb1.size)⟩
    | true =>
      have hs : smerge l1 l2 = sfew (l1 ++ l2) := by unfold smerge; rw [← hB, if_neg (by simp), ← hD, if_neg (by simp)]
      obtain ⟨hg1, -⟩ := good_of_srtB hB.symm
      obtain ⟨hg2, -⟩ := good_of_srtB hD.symm
      have hne2 := good_mem hg2
      have hcf := canon_fold hg1 hne2
      have hfl := mfold_len hg1 hne2
      have HS := Lib.hid hs; have HL1 := Lib.hid hl1; have HL2 := Lib.hid hl2; have HCF := Lib.hid hcf; have HFL := Lib.hid hfl; have HZ1 := Lib.hid z1
      clear hs hB hD hl1 hl2 z1 hg1 hg2 hne2 hcf hfl
      go_enter Try.func68, Try.ntmps68
      go_wp2_with fail
      go_at_call 60
      refine (HR1.out _ hr1).mono ?_
      rintro r w1 ⟨rfl, hb1⟩
      go_wp2_with fail
      go_at_call 60
      refine (HR2.out _ (rd_grown hr2 hb1)).mono ?_
      rintro r w2 ⟨rfl, hb2⟩
      have hb12 := hb1.trans (hb2.mono hb1.size)
      go_wp2_with (at_builtin; refine wpList_append_copy rfl (.tmp 16) (.tmp 17) 103 rfl w2.heap.size 32 i0 (.agg #[.int .i64 0, .int .i64 0]) 2 16 Try.underlying103 hi0 hz0 hz1 hz2 rfl (by decide) senc senc_len w2.heap.size 0 l1 rfl (own_empty (heap_alloc_new w2 (.cells #[] 32)) (Nat.le_refl _)) A1 n1 c1 rfl HL1.out HZ1.out (rd_grown hr1 (by repeat (first | with_reducible exact Below.refl _ _ | with_reducible assumption | (with_reducible exact Env.below (by assumption)) | (with_reducible refine below_new ?_ _) | (with_reducible refine below_drew ?_) | (with_reducible refine below_drewN ?_ _) | (with_reducible refine below_put ?_ ?_ _; rotate_left 1; (dsimp only; omega)) | (with_reducible refine below_then ?_ (by assumption))))) (senc_one l1) (by unfold maxLen; omega) (by omega) (by simp) ?_; intro g3 cap3 w3 own3 hcap3 hg3 hbel)
      have hb3 : Below w.heap.size w w3 := hb12.trans (((Below.refl _ _).alloc (Nat.le_refl _) _ |>.trans hbel).mono hb12.size)
      have own3' := own3.mono hb12.size
      clear hbel own3
      go_wp2_with fail
      go_loopw [6, 7] (fun o i wr => ∃ (k m : Nat) (os : List (Int × Int)), k ≤ n2 ∧ i = .int .i64 k ∧ os = (l2.take k).foldl withS l1 ∧ os.length = m ∧ m ≤ n1 + k ∧ Own senc 2 wr w.heap.size 32 o os ∧ Below w.heap.size w wr) (fun _ i _ => n2 - (intOf i).toNat)
      case atStart => exact ⟨0, n1, l1, Nat.zero_le _, rfl, rfl, HL1.out, Nat.le_refl _, own3', hb3⟩
      case round =>
        obtain ⟨k, m, os, hk, rfl, hos, hom, hmk, howo, hb⟩ := hrel
        have HOM := Lib.hid hom
        clear hom
        by_cases h1 : k < n2
        · obtain ⟨x, hx⟩ : ∃ x, l2[k]? = some x := ⟨_, List.getElem?_eq_getElem (by rw [HL2.out]; exact h1)⟩
          have hnx := mfold_snoc l1 l2 k x hx
          rw [← hos] at hnx
          obtain ⟨b, off, rfl, hbB, f1, f2⟩ := span_cells hr2 hx
          obtain ⟨x1, x2⟩ := x
          dsimp only at f1 f2
          have g1 := (hb.cell (p := ⟨b, off + k * 2, none⟩) hbB).trans f1
          have g2 := (hb.cell (p := ⟨b, off + k * 2 + 1, none⟩) hbB).trans f2
          have hbw : b < wr.heap.size := Nat.lt_of_lt_of_le hbB hb.size
          have d1 : decide ((k : Int) < (n2 : Int)) = true := by simp; omega
          have d1' : decide (k < n2) = true := by simp [h1]
          have i1 : (0 : Int) ≤ (k : Int) := by omega
          have i2 : (k : Int) < (n2 : Int) := by omega
          have e1 : IntKind.i64.wrap ((k : Int) + 1) = (k : Int) + 1 := IntWalk.i64_in _ (by omega)
          obtain ⟨A5, c5, rfl, -⟩ := own_shape_n howo HOM.out
          have hwith := rwith_any A5 c5 m os x1 x2 wr HOM.out (by omega) (Own.rd senc_len howo)
          have hlen : (withS os (x1, x2)).length ≤ n1 + (k + 1) := by rw [← hnx]; have := HFL.out (k + 1); rw [HL1.out] at this; exact this
          have HNX := Lib.hid hnx; have HLE := Lib.hid hlen; have HW := Lib.hid hwith
          clear hx f1 f2 hos hnx hlen hwith
          go_wp2_with fail
          go_at_call 100
          refine HW.out.mono ?_
          rintro r w7 ⟨v7, rfl, own7, hb7⟩
          have hb8 : Below w.heap.size w w7 := hb.trans (hb7.mono hb.size)
          clear hb7 HW
          go_wp2
          go_roundw
          case rel => exact ⟨k + 1, (withS os (x1, x2)).length, withS os (x1, x2), by omega, by go_num, by rw [HNX.out], rfl, HLE.out, own7.mono hb.size, hb8⟩
          case measure => simp [intOf]; omega
        · have d1 : decide ((k : Int) < (n2 : Int)) = false := by simp; omega
          have d1' : decide (k < n2) = false := by simp [h1]
          obtain rfl : k = n2 := by omega
          have htake : l2.take k = l2 := List.take_of_length_le (by rw [HL2.out]; exact Nat.le_refl _)
          have hcan : os = canon (l1 ++ l2) := by rw [hos, htake, HCF.out]
          obtain ⟨A5, c5, rfl, -⟩ := own_shape_n howo HOM.out
          by_cases h9 : 4000 < m
          · have b1 : decide ((4000 : Int) < (m : Int)) = true := by simp; omega
            have b1' : decide (4000 < m) = true := by simp [h9]
            have hs2 : smerge l1 l2 = ([], 4) := by rw [HS.out]; unfold sfew; rw [← hcan, if_pos (by rw [HOM.out]; exact h9)]
            have HS2 := Lib.hid hs2
            clear htake hs2 hcan hos
            go_wp2
            go_ret2
            rw [HS2.out]
            exact ⟨.slice none 0 0, rfl, Own.nil _ _ _, hb⟩
          · have b1 : decide ((4000 : Int) < (m : Int)) = false := by simp; omega
            have b1' : decide (4000 < m) = false := by simp [h9]
            have hs2 : smerge l1 l2 = (os, 0) := by rw [HS.out]; unfold sfew; rw [← hcan, if_neg (by rw [HOM.out]; exact h9)]
            have HS2 := Lib.hid hs2
            clear htake hs2 hcan hos
            go_wp2
            go_ret2
            rw [HS2.out]
            exact ⟨_, rfl, howo, hb⟩
end Go.Proofs.Ytffehibdeogjeaa
