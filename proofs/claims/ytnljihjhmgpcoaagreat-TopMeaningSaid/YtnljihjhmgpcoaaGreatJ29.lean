/- Lemmas and contracts for the statement, joined into one text: PaneValsW. The conditions of each stand at its head. -/
import Derived.Test.YtnljihjhmgpcoaaGreatJ1
import Derived.Test.YtnljihjhmgpcoaaGreatJ12
import Derived.Test.YtnljihjhmgpcoaaGreatJ28
import Derived.Test.YtnljihjhmgpcoaaGreatJ14
namespace Go.Proofs.YtnljihjhmgpcoaaGreat
open Go.RowKit
set_option maxHeartbeats 16000000 in
set_option maxRecDepth 100000 in
theorem values_any (A : Option Addr) (c n : Nat) (l : List Pt) (wk ws we : Int) (hwe : (Lit.int .i64 we).wf = true) (w : World) (hln : l.length = n) (hn : n ≤ 1099511627776) (hr : Rd rcenc 3 w w.heap.size A l) (hok : ∀ x ∈ l, rctok x) :
  Calls Tryz.prog 16 #[.agg #[.int .u8 wk, .int .i64 ws, .int .i64 we], .slice A n c] w (ValsP wk ws we l w) := by
 have HLN := Lib.hid hln
 obtain ⟨R, hR⟩ : ∃ R, R = pvals wk ws we l := ⟨_, rfl⟩
 unfold ValsP
 rw [← hR]
 have HR := Lib.hid hR
 have hs := fun W => sliding_any wk ws we hwe W
 obtain ⟨C, hC⟩ : ∃ C, C = slchk wk ws we := ⟨_, rfl⟩
 rw [← hC] at hs
 have HSL := Lib.hid hs; have HC := Lib.hid hC
 clear hs hR hln hC
 have hL : Loc w [] := trivial
 have hl0 : Loc (w.alloc (.cells #[.int .u8 wk, .int .i64 ws, .int .i64 we] 25)) [(w.heap.size, [.int .u8 wk, .int .i64 ws, .int .i64 we])] := hL.new [.int .u8 wk, .int .i64 ws, .int .i64 we] 25
 have hb0 : Below w.heap.size w (w.alloc (.cells #[.int .u8 wk, .int .i64 ws, .int .i64 we] 25)) := below_new (Below.refl _ _) _
 by_cases hC0 : C = 0
 ·by_cases h4 : 240 < n
  ·have hR2 : R = ([], 4) := by rw [HR.out]; unfold pvals; rw [if_neg (by rw [← HC.out]; simp [hC0]), if_pos (by rw [HLN.out]; exact h4)]
   subst hR2 hC0
   have d1 : decide ((240 : Int) < (n : Int)) = true := by simp; omega
   have d2 : decide (240 < n) = true := by simp [h4]
   go_enter Tryz.func16, Tryz.ntmps16
   go_wp2_with fail
   go_at_call 34
   refine (HSL.out _).mono ?_
   rintro r w3 ⟨rfl, hb3⟩
   go_wp2
   go_ret2
   exact ⟨.slice none 0 0, rfl, Own.nil _ _ _, below_then hb0 hb3⟩
  ·have hz := slchk_zero.1 (HC.out.symm.trans hC0)
   obtain ⟨hwok, rfl⟩ := hz
   have HW := Lib.hid hwok
   have hR2 : R = if l.all timeB = true then ((allE 2 ws we [] l).getD [], 0) else ([], 16) := by rw [HR.out]; unfold pvals; rw [if_neg (by rw [← HC.out]; simp [hC0]), if_neg (by rw [HLN.out]; exact h4)]
   have HR2 := Lib.hid hR2
   obtain ⟨⟨s1, s2⟩, hw2⟩ := hwok
   have hw3 : 1 ≤ we ∧ we ≤ ws ∧ ws ≤ 16 * we := by omega
   obtain ⟨G, q1, q2, g1, g2, g3, g4, g5, g6, -, -⟩ := gcd_facts (show 0 < ws by omega) (show 0 < we by omega)
   have hdv := fun W => divisor_any ws we W (by omega) (by omega) s2 (by omega)
   rw [g1] at hdv
   have hGG : (G : Int) ≤ 1073741824 := by
    have : (1 : Int) * G ≤ q1 * G := Int.mul_le_mul_of_nonneg_right (by omega) (by omega)
    omega
   have HDV := Lib.hid hdv
   have hg1 : (G : Int) ∣ ws := ⟨q1, by rw [g5, Int.mul_comm]⟩
   have hg2 : (G : Int) ∣ we := ⟨q2, by rw [g6, Int.mul_comm]⟩
   have HG1 := Lib.hid hg1; have HG2 := Lib.hid hg2
   have d1 : decide ((240 : Int) < (n : Int)) = false := by simp; omega
   have d2 : decide (240 < n) = false := by simp; omega
   have HOK := Lib.hid hok
   subst hC0
   clear hw2 hR2 hok HR HC hdv g1 g3 g4 g5 g6 hg1 hg2
   go_enter Tryz.func16, Tryz.ntmps16
   go_wp2_with fail
   go_at_call 34
   refine (HSL.out _).mono ?_
   rintro r w3 ⟨rfl, hb3⟩
   have hl3 := hl0.below hb3
   have hb03 := below_then hb0 hb3
   clear hl0 hb0 hb3
   have hF := hl3
   (repeat unfold Loc at hF)
   go_wp2_with fail
   go_at_call 35
   refine (HDV.out _).mono ?_
   rintro r w4 ⟨rfl, hb4⟩
   have hl4 := hl3.below hb4
   have hb04 := below_then hb03 hb4
   have hz4 : w.heap.size < w4.heap.size := hl4.1
   clear hF hl3 hb03 hb4
   have hF := hl4
   (repeat unfold Loc at hF)
   have hmm := @run_makeMap Tryz.prog
   go_wp2_with fail
   go_loopw [42] (fun iv wr => ∃ (k : Nat), iv = .int .i64 k ∧ k ≤ n ∧ (∀ x ∈ l.take k, timeB x = true) ∧ MapF wr w4.heap.size (paneF (G : Int) (l.take k)) ∧ Loc wr [(w.heap.size, [.int .u8 2, .int .i64 ws, .int .i64 we])] ∧ Below w.heap.size w wr) (fun iv _ => n - (intOf iv).toNat)
   case atStart => exact ⟨0, rfl, Nat.zero_le _, by simp, by rw [List.take_zero, paneF_nil]; exact MapF.made _, hl4.old _, below_new hb04 _⟩
   case round =>
    obtain ⟨k, rfl, hk, htk, hm, hl, hb⟩ := hrel
    have HTK := Lib.hid htk
    clear hF hl4 htk
    have hF := hl
    (repeat unfold Loc at hF)
    by_cases hlt : k < n
    ·obtain ⟨p, hp⟩ : ∃ p, l[k]? = some p := ⟨_, List.getElem?_eq_getElem (by rw [HLN.out]; exact hlt)⟩
     obtain ⟨b, off, rfl, hbb, f0, f1, f2⟩ := rc_cells (rd_grown hr hb) hp
     have hpl := List.mem_of_getElem? hp
     have d5 : decide ((k : Int) < (n : Int)) = true := by simp; omega
     have d5' : decide (k < n) = true := by simp [hlt]
     have k1 : (0 : Int) ≤ (k : Int) := by omega
     have k2 : (k : Int) < (n : Int) := by omega
     have e1 : IntKind.i64.wrap ((k : Int) + 1) = (k : Int) + 1 := IntWalk.i64_in _ (by omega)
     by_cases ht : timeB p = true
     ·have ht2 : -1099511627776 ≤ p.t ∧ p.t ≤ 1099511627776 := by unfold timeB at ht; simpa using ht
      have htc : tchk p.t (G : Int) = 0 := tchk_zero.2 ⟨by omega, hGG, ht2.1, ht2.2⟩
      have hto := fun W => of_any p.t (G : Int) W
      obtain ⟨S, hS⟩ : ∃ S, S = pst (G : Int) p.t := ⟨_, rfl⟩
      rw [htc, show tspan p.t (G : Int) = (S, S + G) by rw [hS]; unfold tspan pst; rw [if_pos htc]] at hto
      simp only at hto
      obtain ⟨⟨c0, s0, m0, x0⟩, hA0⟩ : ∃ a, a = accP (qPane (G : Int) (p.k, S)) (l.take k) := ⟨_, rfl⟩
      obtain ⟨⟨jc, js, jm, jx⟩, hJ⟩ : ∃ J, J = aboth ⟨c0, s0, m0, x0⟩ (accV p.v) := ⟨_, rfl⟩
      have hjo := fun W => ajoin_any c0 s0 m0 x0 1 p.v p.v p.v W
      have hle : (l.take k).length ≤ 240 := by rw [List.length_take]; omega
      have hj2 : ajoin ⟨c0, s0, m0, x0⟩ ⟨1, p.v, p.v, p.v⟩ = (⟨jc, js, jm, jx⟩, 0) := by
       rw [hJ, hA0]
       refine ajoin_one (accP_ok _ (by omega)) ?_
       rw [accP_c]
       have := List.length_filter_le (qPane (G : Int) (p.k, S)) (l.take k)
       omega
      rw [hj2] at hjo
      simp only at hjo
      have hlook : ∀ X, MapF X w4.heap.size (paneF (G : Int) (l.take k)) → (Instr.lookup 100 (.map (some w4.heap.size)) (.agg #[.int .i64 p.k, .int .i64 S]) false).run Tryz.prog X = .ok (.agg #[.int .i64 c0, .int .i64 s0, .int .i64 m0, .int .i64 x0]) X := fun X hX => by
       have := hX.look (p.k, S)
       rw [paneF_get, ← hA0] at this
       exact this
      have hnew : (fun k' => if k' = (p.k, S) then some (⟨jc, js, jm, jx⟩ : Acc) else paneF (G : Int) (l.take k) k') = paneF (G : Int) (l.take (k + 1)) := by
       rw [List.take_add_one, hp, Option.toList, ← paneF_snoc, ← hS, ← hA0, ← hJ]
      have HTO := Lib.hid hto; have HJO := Lib.hid hjo; have HLOOK := Lib.hid hlook; have HNEW := Lib.hid hnew
      have HT2 : Hid (∀ x ∈ l.take (k + 1), timeB x = true) := fun x hx => by
       rw [List.take_add_one, hp, Option.toList, List.mem_append, List.mem_singleton] at hx
       rcases hx with hx | rfl
       ·exact HTK.out x hx
       ·exact ht
      clear hto hjo hlook hnew hS hA0 hJ hj2 htc ht2 ht hpl hp hlt
      go_wp2_with fail
      go_at_call 36
      refine (HTO.out _).mono ?_
      rintro r w5 ⟨rfl, hb5⟩
      have hl5 := (hl.new [.int .i64 p.k, .int .i64 p.t, .int .i64 p.v] 47).below hb5
      have hb05 := below_then (below_new hb _) hb5
      have hm5 := (hm.below (below_new (Below.refl _ _) (.cells #[.int .i64 p.k, .int .i64 p.t, .int .i64 p.v] 47))).below hb5
      clear hF hl hb hm f0 f1 f2
      have hF := hl5
      (repeat unfold Loc at hF)
      go_wp2_with fail
      have hl7 := (hl5.new [.int .i64 S, .int .i64 (S + G)] 59).new [.int .i64 p.k, .int .i64 S] 104
      rw [World.size_alloc] at hl7
      have hm7 := hm5.below (below_new (below_new (Below.refl _ _) (.cells #[.int .i64 S, .int .i64 (S + G)] 59)) (.cells #[.int .i64 p.k, .int .i64 S] 104))
      obtain ⟨lE, hE, hR⟩ := Env.abs (w0 := w) (below_new (below_new hb05 _) _) hl7
      have hEM : EnvM w lE w4.heap.size (paneF (G : Int) (l.take k)) ((w5.alloc (.cells #[.int .i64 S, .int .i64 (S + G)] 59)).alloc (.cells #[.int .i64 p.k, .int .i64 S] 104)) := ⟨hE, hm7⟩
      have hRM := fun X (hX : EnvM w lE w4.heap.size (paneF (G : Int) (l.take k)) X) => hR X hX.1
      have hlk := fun X (hX : EnvM w lE w4.heap.size (paneF (G : Int) (l.take k)) X) => HLOOK.out X hX.2
      (repeat unfold Loc at hRM)
      have HRR := Lib.hid hR
      clear hR hF hl5 hm5 hl7 hm7 hE
      refine wp_region_held_drew (S := EnvM w lE w4.heap.size (paneF (G : Int) (l.take k))) (by kernel_rfl) (by (first | assumption | exact EnvM.step (by assumption) (by assumption) | exact EnvM.old (by assumption) _ | exact EnvM.drew (by assumption) | ((repeat refine EnvM.far0 ?_ (by assumption) _); assumption))) (fun hHeld => ?_)
      refine hT 0 ?_; refine hT 1 ?_; refine hT 2 ?_; refine hT 3 ?_; refine hT 4 ?_
      refine wpAnyH_ready (rs := [5, 10]) (by kernel_rfl) (by simp) ?_
      refine hCons 5 (by decide) ?_ (hCons 10 (by decide) ?_ AllReadyH.nil)
      ·(intro oi hoi; simp only [List.getElem?_toArray, List.getElem?_cons_succ, List.getElem?_cons_zero] at hoi; obtain rfl := Option.some.inj hoi; clear hoi); intro K hK
       go_simp
       go_at_call 38
       refine (aof_any _ _).mono ?_
       rintro r w8 ⟨rfl, hb8⟩
       have hE8 := EnvM.step hb8 hHeld
       (refine hK.out _ _ (by (first | assumption | exact EnvM.step (by assumption) (by assumption) | exact EnvM.old (by assumption) _ | exact EnvM.drew (by assumption) | ((repeat refine EnvM.far0 ?_ (by assumption) _); assumption))) (fun hHeld => ?_); clear hK K; (try simp only [Act.put, List.setIfInBounds_toArray, List.set_cons_zero, List.set_cons_succ]))
       refine wpAnyH_ready (rs := [6, 10]) (by kernel_rfl) (by simp) ?_
       refine hCons 6 (by decide) ?_ (hCons 10 (by decide) ?_ AllReadyH.nil)
       ·(intro oi hoi; simp only [List.getElem?_toArray, List.getElem?_cons_succ, List.getElem?_cons_zero] at hoi; obtain rfl := Option.some.inj hoi; clear hoi); intro K hK
        go_simp
        go_at_call 37
        refine (HJO.out _).mono ?_
        rintro r w9 ⟨rfl, hb9⟩
        have hE9 := EnvM.step hb9 hHeld
        (refine hK.out _ _ (by (first | assumption | exact EnvM.step (by assumption) (by assumption) | exact EnvM.old (by assumption) _ | exact EnvM.drew (by assumption) | ((repeat refine EnvM.far0 ?_ (by assumption) _); assumption))) (fun hHeld => ?_); clear hK K; (try simp only [Act.put, List.setIfInBounds_toArray, List.set_cons_zero, List.set_cons_succ]))
        refine hT 7 ?_; refine hT 8 ?_; refine hT 9 ?_
        refine hC 10 fun K hK => ?_; go_simp
        (refine hK.out _ _ (by (first | assumption | exact EnvM.step (by assumption) (by assumption) | exact EnvM.old (by assumption) _ | exact EnvM.drew (by assumption) | ((repeat refine EnvM.far0 ?_ (by assumption) _); assumption))) (fun hHeld => ?_); clear hK K; (try simp only [Act.put, List.setIfInBounds_toArray, List.set_cons_zero, List.set_cons_succ]))
        refine hC 11 fun K hK => ?_; go_simp
        (refine hK.out _ _ (by (first | assumption | exact EnvM.step (by assumption) (by assumption) | exact EnvM.old (by assumption) _ | exact EnvM.drew (by assumption) | ((repeat refine EnvM.far0 ?_ (by assumption) _); assumption))) (fun hHeld => ?_); clear hK K; (try simp only [Act.put, List.setIfInBounds_toArray, List.set_cons_zero, List.set_cons_succ]))
        refine hT 12 ?_
        refine hD ?_
        have hlW := HRR.out _ hHeld.1
        have hmW := hHeld.2
        have hbW := hHeld.1.1
        clear hRM hlk
        have hF := hlW
        (repeat unfold Loc at hF)
        go_wp2_with (at_mapUpdate; refine wpList_putP _ rfl (.tmp 74) (.tmp 75) (.tmp 76) rfl w4.heap.size _ rfl hmW (p.k, S) ⟨jc, js, jm, jx⟩ rfl rfl ?_; intro w11 hm11 hg11 hz11)
        rw [HNEW.out] at hm11
        have hE11 : Env w [(w.heap.size, [.int .u8 2, .int .i64 ws, .int .i64 we])] w11 := Env.grownB ⟨hbW, hlW.tl.tl.tl⟩ hg11 (by omega) (by simp; omega)
        clear hF hlW hbW hmW
        go_roundw
        case rel => exact ⟨k + 1, by go_num, by omega, HT2.out, hm11, hE11.2, hE11.1⟩
        case measure => simp [intOf]; omega
       ·(intro oi hoi; simp only [List.getElem?_toArray, List.getElem?_cons_succ, List.getElem?_cons_zero] at hoi; obtain rfl := Option.some.inj hoi; clear hoi); intro K hK
        go_simp
        (refine hK.out _ _ (by (first | assumption | exact EnvM.step (by assumption) (by assumption) | exact EnvM.old (by assumption) _ | exact EnvM.drew (by assumption) | ((repeat refine EnvM.far0 ?_ (by assumption) _); assumption))) (fun hHeld => ?_); clear hK K; (try simp only [Act.put, List.setIfInBounds_toArray, List.set_cons_zero, List.set_cons_succ]))
        refine hC 6 fun K hK => ?_; go_simp
        go_at_call 37
        refine (HJO.out _).mono ?_
        rintro r w9 ⟨rfl, hb9⟩
        have hE9 := EnvM.step hb9 hHeld
        have hq := Loc.below hb9 (Loc.new (Loc.nil w8) [.int .i64 0, .int .i64 0, .int .i64 0, .int .i64 0] 57)
        (repeat unfold Loc at hq)
        (refine hK.out _ _ (by (first | assumption | exact EnvM.step (by assumption) (by assumption) | exact EnvM.old (by assumption) _ | exact EnvM.drew (by assumption) | ((repeat refine EnvM.far0 ?_ (by assumption) _); assumption))) (fun hHeld => ?_); clear hK K; (try simp only [Act.put, List.setIfInBounds_toArray, List.set_cons_zero, List.set_cons_succ]))
        refine hT 7 ?_; refine hT 8 ?_; refine hT 9 ?_
        refine hC 11 fun K hK => ?_; go_simp
        (refine hK.out _ _ (by (first | assumption | exact EnvM.step (by assumption) (by assumption) | exact EnvM.old (by assumption) _ | exact EnvM.drew (by assumption) | ((repeat refine EnvM.far0 ?_ (by assumption) _); assumption))) (fun hHeld => ?_); clear hK K; (try simp only [Act.put, List.setIfInBounds_toArray, List.set_cons_zero, List.set_cons_succ]))
        refine hT 12 ?_
        refine hD ?_
        have hlW := HRR.out _ hHeld.1
        have hmW := hHeld.2
        have hbW := hHeld.1.1
        clear hRM hlk
        have hF := hlW
        (repeat unfold Loc at hF)
        go_wp2_with (at_mapUpdate; refine wpList_putP _ rfl (.tmp 74) (.tmp 75) (.tmp 76) rfl w4.heap.size _ rfl hmW (p.k, S) ⟨jc, js, jm, jx⟩ rfl rfl ?_; intro w11 hm11 hg11 hz11)
        rw [HNEW.out] at hm11
        have hE11 : Env w [(w.heap.size, [.int .u8 2, .int .i64 ws, .int .i64 we])] w11 := Env.grownB ⟨hbW, hlW.tl.tl.tl⟩ hg11 (by omega) (by simp; omega)
        clear hF hlW hbW hmW
        go_roundw
        case rel => exact ⟨k + 1, by go_num, by omega, HT2.out, hm11, hE11.2, hE11.1⟩
        case measure => simp [intOf]; omega
      ·have hfar : ∀ W v i, EnvM w lE w4.heap.size (paneF (G : Int) (l.take k)) W → EnvM w lE w4.heap.size (paneF (G : Int) (l.take k)) (W.setCell ⟨w5.heap.size + 1 + 1, i, none⟩ v) := fun W v i h => by
        have := EnvM.far0 h hHeld v (i := i)
        rwa [World.size_drew, World.size_alloc, World.size_alloc] at this
       have HFAR := Lib.hid hfar
       clear hfar
       (intro oi hoi; simp only [List.getElem?_toArray, List.getElem?_cons_succ, List.getElem?_cons_zero] at hoi; obtain rfl := Option.some.inj hoi; clear hoi); intro K hK
       go_simp
       (refine hK.out _ _ (by (first | assumption | exact EnvM.step (by assumption) (by assumption) | exact EnvM.old (by assumption) _ | exact EnvM.drew (by assumption) | ((repeat refine EnvM.far0 ?_ (by assumption) _); assumption))) (fun hHeld => ?_); clear hK K; (try simp only [Act.put, List.setIfInBounds_toArray, List.set_cons_zero, List.set_cons_succ]))
       refine hC 5 fun K hK => ?_; go_simp
       go_at_call 38
       refine (aof_any _ _).mono ?_
       rintro r w8 ⟨rfl, hb8⟩
       have hE8 := EnvM.step hb8 hHeld
       have hq8 := Loc.below hb8 (Loc.new (Loc.nil _) [.int .i64 0, .int .i64 0, .int .i64 0, .int .i64 0] 57).drew
       (repeat rw [World.size_drew] at hq8)
       (repeat rw [World.size_alloc] at hq8)
       (refine hK.out _ _ (by (first | assumption | exact EnvM.step (by assumption) (by assumption) | exact EnvM.old (by assumption) _ | exact EnvM.drew (by assumption) | ((repeat refine EnvM.far0 ?_ (by assumption) _); assumption))) (fun hHeld => ?_); clear hK K; (try simp only [Act.put, List.setIfInBounds_toArray, List.set_cons_zero, List.set_cons_succ]))
       refine hC 6 fun K hK => ?_; go_simp
       go_at_call 37
       refine (HJO.out _).mono ?_
       rintro r w9 ⟨rfl, hb9⟩
       have hE9 := EnvM.step hb9 hHeld
       have hq := hq8.below hb9
       (repeat unfold Loc at hq)
       (refine hK.out _ _ (by (first | assumption | exact EnvM.step (by assumption) (by assumption) | exact EnvM.old (by assumption) _ | exact EnvM.drew (by assumption) | ((repeat refine EnvM.far0 ?_ (by assumption) _); assumption))) (fun hHeld => ?_); clear hK K; (try simp only [Act.put, List.setIfInBounds_toArray, List.set_cons_zero, List.set_cons_succ]))
       refine hT 7 ?_; refine hT 8 ?_; refine hT 9 ?_
       refine hC 11 fun K hK => ?_; go_simp
       refine hK.out _ _ (HFAR.out _ _ _ (HFAR.out _ _ _ (HFAR.out _ _ _ (HFAR.out _ _ _ hHeld)))) (fun hHeld => ?_)
       clear hK K
       (try simp only [Act.put, List.setIfInBounds_toArray, List.set_cons_zero, List.set_cons_succ])
       refine hT 12 ?_
       refine hD ?_
       have hlW := HRR.out _ hHeld.1
       have hmW := hHeld.2
       have hbW := hHeld.1.1
       clear hRM hlk
       have hF := hlW
       (repeat unfold Loc at hF)
       go_wp2_with (at_mapUpdate; refine wpList_putP _ rfl (.tmp 74) (.tmp 75) (.tmp 76) rfl w4.heap.size _ rfl hmW (p.k, S) ⟨jc, js, jm, jx⟩ rfl rfl ?_; intro w11 hm11 hg11 hz11)
       rw [HNEW.out] at hm11
       have hE11 : Env w [(w.heap.size, [.int .u8 2, .int .i64 ws, .int .i64 we])] w11 := Env.grownB ⟨hbW, hlW.tl.tl.tl⟩ hg11 (by omega) (by simp; omega)
       clear hF hlW hbW hmW
       go_roundw
       case rel => exact ⟨k + 1, by go_num, by omega, HT2.out, hm11, hE11.2, hE11.1⟩
       case measure => simp [intOf]; omega
     ·have htc : tchk p.t (G : Int) = 16 := by
       unfold timeB at ht; unfold tchk; simp at ht; rw [if_neg (by omega), if_pos (by omega)]
      have hto := fun W => of_any p.t (G : Int) W
      rw [htc, show tspan p.t (G : Int) = (0, 0) by unfold tspan; rw [if_neg (by rw [htc]; decide)]] at hto
      simp only at hto
      have HTO := Lib.hid hto
      have hR3 : R = ([], 16) := by
       rw [HR2.out, if_neg]
       intro h
       rw [List.all_eq_true] at h
       exact ht (h p hpl)
      subst hR3
      clear hto htc ht hp hpl hlt HR2
      go_wp2_with fail
      go_at_call 36
      refine (HTO.out _).mono ?_
      rintro r w5 ⟨rfl, hb5⟩
      have hbe := below_then (below_new hb _) hb5
      go_wp2
      go_ret2
      exact ⟨.slice none 0 0, rfl, Own.nil _ _ _, by first | exact hbe | exact below_new hbe _⟩
    ·obtain rfl : k = n := by omega
     obtain ⟨wq, rfl⟩ : ∃ wq, wq = wr := ⟨_, rfl⟩
     have d5 : decide ((k : Int) < (k : Int)) = false := by simp
     have d5' : decide (k < k) = false := by simp
     rw [List.take_of_length_le (by rw [HLN.out]; exact Nat.le_refl _)] at hm HTK
     have hR3 : R = ((allE 2 ws we [] l).getD [], 0) := by rw [HR2.out, if_pos (List.all_eq_true.2 HTK.out)]
     have hokP : ∀ p ∈ l, okP p := fun p hp => ⟨by have := HTK.out p hp; unfold timeB at this; simpa using this, .inl (HOK.out p hp).1⟩
     have hd0 : ∀ p ∈ l, p.d = 0 := fun p hp => (HOK.out p hp).1
     have h240 : l.length ≤ 240 := by rw [HLN.out]; omega
     have HR3 := Lib.hid hR3; have HKP := Lib.hid hokP; have HD0 := Lib.hid hd0; have H240 := Lib.hid h240
     have hz4q := hm.lt
     obtain ⟨M, hMat, hMl⟩ := hm
     have hMn := hMat.nodup
     have HML := Lib.hid hMl; have HMN := Lib.hid hMn
     have hMat' := hMat.below (below_new (Below.refl _ _) (.map #[] 0))
     have hF2 := MapF.made wq
     have hl' := hl.old (.map #[] 0)
     have hb' := below_new hb (.map #[] 0)
     clear hR3 hokP hd0 h240 hMl hMn hlt HR2 HTK hMat
     go_wp2_with (at_range; refine wpList_rangeP _ rfl (.tmp 79) rfl w4.heap.size M rfl hMat' ?_; intro w5 hrg5 hg5 hz5; rw [World.size_alloc])
     go_frame
     rw [World.size_alloc] at hrg5 hz5
     have hl5 := Loc.grown hg5 (by simp) hl'
     have hb5 : Below w.heap.size w w5 := hb'.grown hg5 hb'.size (fun _ h => by cases h)
     have hF25 := hF2.grown hg5 (by simp)
     clear hMat' hg5 hl' hb' hF2 hF hl hb hmm
     go_loopw [19] (fun _ wr => ∃ D, RangeAt wr w4.heap.size (wq.heap.size + 1) M D ∧ MapF wr wq.heap.size (winF ws we D) ∧ Loc wr [(w.heap.size, [.int .u8 2, .int .i64 ws, .int .i64 we])] ∧ Below w.heap.size w wr) (fun _ wr => M.length - doneN wr w4.heap.size (wq.heap.size + 1))
     case atStart => exact ⟨[], hrg5, by rw [winF_nil]; exact hF25, hl5, hb5⟩
     case round =>
      obtain ⟨D, hrg, hF2, hl, hb⟩ := hrel
      clear hrg5 hl5 hb5 hF25
      obtain ⟨wo, rfl⟩ : ∃ wo, wo = wr := ⟨_, rfl⟩
      have hF := hl
      (repeat unfold Loc at hF)
      go_wp2_with (at_next; refine wpList_nextP _ rfl (.tmp 80) rfl w4.heap.size (wq.heap.size + 1) M D (by go_simp) hrg (by omega) ?_ ?_)
      ·intro hperm
       have hB2lt := hF2.lt
       obtain ⟨M2, hM2, hM2l⟩ := hF2
       have hl2 : ∀ b, lookO M2 b = if l.any (inW ws we b) = true then some (accP (inW ws we b) l) else none := fun b => (hM2l b).trans (win_final HW.out (show (0 : Int) < (G : Int) by omega) HG1.out HG2.out HKP.out HMN.out HML.out hperm b)
       have hM2n := hM2.nodup
       obtain ⟨hk2, hlen2⟩ := win_keys HW.out hM2n hl2
       have hM2b : M2.length ≤ 3840 := by have := H240.out; omega
       have HL2 := Lib.hid hl2; have HM2N := Lib.hid hM2n; have HK2 := Lib.hid hk2
       clear hM2l hperm hl2 hM2n hk2 hlen2 hrg
       go_wp2_with (at_range; refine wpList_rangeP _ rfl (.tmp 122) rfl wq.heap.size M2 rfl hM2 ?_; intro w8 hrg8 hg8 hz8)
       go_frame
       have hl8 := Loc.grown hg8 (by simp) hl
       have hb8 : Below w.heap.size w w8 := hb.grown hg8 hb.size (fun _ h => by cases h)
       have hz8' : wo.heap.size < w8.heap.size := by omega
       clear hg8 hz8 hF hl hb hM2
       obtain ⟨i0, hi0, hiz0, hiz1, hiz2⟩ := info_parts en_info
       go_loopw [23] (fun ov wr => ∃ D2, RangeAt wr wq.heap.size wo.heap.size M2 D2 ∧ Own enenc 11 wr w8.heap.size 62 ov (D2.map (entB ws)) ∧ Loc wr [(w.heap.size, [.int .u8 2, .int .i64 ws, .int .i64 we])] ∧ Below w.heap.size w wr ∧ w8.heap.size ≤ wr.heap.size) (fun _ wr => M2.length - doneN wr wq.heap.size wo.heap.size)
       case atStart => exact ⟨[], hrg8, Own.nil _ _ _, hl8, hb8, Nat.le_refl _⟩
       case round =>
        obtain ⟨D2, hrg, own, hl, hb, hle8⟩ := hrel
        clear hrg8 hl8
        have hF := hl
        (repeat unfold Loc at hF)
        have hDl : D2.length ≤ 3840 := by
         obtain ⟨E', e1, e2⟩ := hrg.sub
         have := e2.length_eq
         have := e1.length_le
         omega
        obtain ⟨dn, hdn⟩ : ∃ dn, (D2.map (entB ws)).length = dn := ⟨_, rfl⟩
        have hdn2 : dn ≤ 3840 := by rw [← hdn, List.length_map]; exact hDl
        obtain ⟨Ao, co, rfl, -⟩ := own_shape_n own hdn
        have HDN := Lib.hid hdn
        clear hdn
        go_wp2_with (at_next; refine wpList_nextP _ rfl (.tmp 123) rfl wq.heap.size wo.heap.size M2 D2 (by go_simp) hrg (by omega) ?_ ?_)
        ·intro hperm2
         rcases own.2 with ⟨hv, h0⟩ | ⟨g, cap, cur, hv, hgb, -⟩
         ·injection hv with e1 e2 e3
          subst e1 e2 e3
          have hnil : D2.map (entB ws) = [] := List.eq_nil_of_length_eq_zero HDN.out
          have hall := vals_final (l := []) HW.out HKP.out HD0.out H240.out HM2N.out HL2.out hperm2 (by rw [hnil]) List.Pairwise.nil
          have hR4 : R = ([], 0) := by rw [HR3.out, hall]; rfl
          subst hR4
          clear hnil hall h0 hperm2
          go_wp2_with fail
          go_at_call 40
          refine (sortB_none _ _).mono ?_
          rintro r w9 ⟨rfl, rfl⟩
          go_wp2
          go_ret2
          exact ⟨.slice none 0 0, rfl, Own.nil _ _ _, hb⟩
         ·injection hv with e1 e2 e3
          subst e1 e3
          clear e2
          go_wp2_with fail
          go_at_call 40
          refine (sortB_any g dn co w8.heap.size (D2.map (entB ws)) _ HDN.out (by omega) own).mono ?_
          rintro r w9 ⟨rfl, l', hpl, hso, own', hgr⟩
          have hall := vals_final HW.out HKP.out HD0.out H240.out HM2N.out HL2.out hperm2 hpl hso
          have hR4 : R = (l', 0) := by rw [HR3.out, hall]; rfl
          have hbW : Below w.heap.size w w9 := hb.grown hgr hb.size (fun j hj => by injection hj with hj; have := hb8.size; omega)
          subst hR4
          clear hall hpl hso hperm2 hgr
          go_wp2
          go_ret2
          exact ⟨_, rfl, own'.mono hb8.size, hbW⟩
        ·intro kk ss cc tt mm xx w10 hmem hrg10 hlen10 hg10 hz10 hent
         have hl10 := Loc.grown hg10 (by simp; omega) hl
         have hb10 : Below w.heap.size w w10 := hb.grown hg10 hb.size (fun _ h => by injection h with h; omega)
         have own10 := own.grown hg10 (own_apart own (by omega))
         have hle10 : w8.heap.size ≤ w10.heap.size := by omega
         obtain ⟨p, hpP, hpw, -⟩ := HK2.out _ hmem
         have hokp := HKP.out p hpP
         have hiw := (inW_iff HW.out hokp).1 hpw
         dsimp only at hiw
         have hss : -1100585369600 ≤ ss ∧ ss ≤ 1099511627776 := by have := hokp.1; omega
         have e2 : IntKind.i64.wrap (ss + ws) = ss + ws := IntWalk.i64_in _ (by omega)
         obtain ⟨x, hx⟩ : ∃ x, x = entB ws ((kk, ss), ⟨cc, tt, mm, xx⟩) := ⟨_, rfl⟩
         have hnew : (D2 ++ [((kk, ss), (⟨cc, tt, mm, xx⟩ : Acc))]).map (entB ws) = D2.map (entB ws) ++ [x] := by rw [List.map_append, hx]; rfl
         have HNEW := Lib.hid hnew
         clear hF hl hb hg10 hz10 own hpP hpw hokp hiw hnew
         have hF := hl10
         (repeat unfold Loc at hF)
         subst hx
         go_wp2_with (at_builtin; refine wpList_append_fs rfl _ _ 51 rfl w8.heap.size 62 i0 (.agg #[.int .i64 0, .int .i64 0, .int .i64 0, .int .i64 0, .int .i64 0, .int .i64 0, .int .i64 0, .int .i64 0, .int .i64 0, .int .i64 0, .int .i64 0]) 11 88 Tryz.underlying51 hi0 hiz0 hiz1 hiz2 rfl (by decide) enenc enenc_len _ _ (entB ws ((kk, ss), ⟨cc, tt, mm, xx⟩)) rfl (((own10.alloc (.cells #[.int .i64 kk, .int .i64 ss] 104)).alloc (.cells #[.int .i64 cc, .int .i64 tt, .int .i64 mm, .int .i64 xx] 57)).alloc (.cells (enenc (entB ws ((kk, ss), ⟨cc, tt, mm, xx⟩))).toArray 62)) ⟨w10.heap.size + 1 + 1, 0, none⟩ 1 rfl (en_new ((w10.alloc (.cells #[.int .i64 kk, .int .i64 ss] 104)).alloc (.cells #[.int .i64 cc, .int .i64 tt, .int .i64 mm, .int .i64 xx] 57)) (entB ws ((kk, ss), ⟨cc, tt, mm, xx⟩)) 62 (w10.heap.size + 1 + 1) (by simp)) (enenc_one [entB ws ((kk, ss), ⟨cc, tt, mm, xx⟩)]) (by rw [HDN.out]; unfold maxLen; omega) (by rw [HDN.out]; omega) (by simp; omega) ?_; intro v' w11 own11 hgr11 hfs11)
         have hbn : Below w10.heap.size w10 (((w10.alloc (.cells #[.int .i64 kk, .int .i64 ss] 104)).alloc (.cells #[.int .i64 cc, .int .i64 tt, .int .i64 mm, .int .i64 xx] 57)).alloc (.cells (enenc (entB ws ((kk, ss), ⟨cc, tt, mm, xx⟩))).toArray 62)) := below_new (below_new (below_new (Below.refl _ _) _) _) _
         have hlu := fun j hj => (World.ownsRow.lt own10 j hj).1
         have hrgW := (hrg10.below hbn).grown hgr11 (fun e => by have := hlu _ e.symm; omega) (fun e => by have := hlu _ e.symm; omega)
         have hlW := Loc.grown hgr11 (fun q hq => by simp at hq; subst hq; intro e; have h := hlu _ e.symm; have := hb8.size; have := hl10.1; dsimp only at h; omega) (hl10.below hbn)
         have hbW : Below w.heap.size w w11 := (hb10.trans (hbn.mono hb10.size)).grown hgr11 (Nat.le_trans hb10.size hbn.size) (fun j hj => by have := hlu j hj; have := hb8.size; omega)
         have hleW : w8.heap.size ≤ w11.heap.size := Nat.le_trans hle10 (Nat.le_trans hbn.size hgr11.size)
         go_roundw
         case rel => exact ⟨D2 ++ [((kk, ss), ⟨cc, tt, mm, xx⟩)], hrgW, by rw [HNEW.out]; exact own11, hlW, hbW, hleW⟩
         case measure => rw [hrgW.doneN, hrg.doneN, List.length_append, List.length_singleton]; omega
      ·intro kk ss cc tt mm xx w6 hmem hrg6 hlen6 hg6 hz6 hent
       have hl6 := Loc.grown hg6 (by simp; omega) hl
       have hb6 : Below w.heap.size w w6 := hb.grown hg6 hb.size (fun _ h => by injection h with h; omega)
       have hF6 := hF2.grown hg6 (by simp)
       have HZ6 := Lib.hid hz6
       clear hF hl hb hg6 hz6 hF2
       have hF := hl6
       (repeat unfold Loc at hF)
       obtain ⟨m1, m2, m3, m4⟩ := (pane_time (show (0 : Int) < (G : Int) by omega) HKP.out HMN.out HML.out hmem).resolve_right (by omega)
       dsimp only at m1 m2 m3 m4
       obtain ⟨E, hE0⟩ : ∃ E : (Int × Int) × Acc, E = ((kk, ss), ⟨cc, tt, mm, xx⟩) := ⟨_, rfl⟩
       rw [← hE0] at hrg6 hmem
       obtain ⟨T, hT⟩ : ∃ T, T = swins (max ss (-1099511627776)) ws we := ⟨_, rfl⟩
       have hTw : wspans 2 ws we (max ss (-1099511627776)) = T := by rw [hT]; unfold wspans; rw [if_neg (by decide)]
       have hTq : ∀ q ∈ T, q.2 = q.1 + ws ∧ q.1 ≤ max ss (-1099511627776) ∧ max ss (-1099511627776) < q.1 + ws := fun q hq => by
        rw [← hTw] at hq
        have := (mem_wspans HW.out (by decide) m1 m2 q).1 hq
        exact ⟨this.1, this.2.2⟩
       have hTn : T.Pairwise (fun p q => p.1 < q.1) := by rw [← hTw]; exact wspans_nodup HW.out (by decide)
       have hTl : T.length ≤ 16 := by rw [← hTw]; exact wspans_16 HW.out (by decide)
       have hof := fun W => slof_any 2 ws we (max ss (-1099511627776)) hwe W
       rw [wof_ok HW.out (by decide) m1 m2, hTw] at hof
       simp only at hof
       have hall := midF_all ws we D E
       rw [show max E.1.2 (-1099511627776) = max ss (-1099511627776) by rw [hE0], ← hT] at hall
       have hgood : goodD (G : Int) l (D ++ [E]) := by
        obtain ⟨E', e1, e2⟩ := hrg6.sub
        exact (goodD.of HMN.out HML.out e1).perm e2.symm
       have hhit : ∀ q ∈ T, hitW ws we (kk, q.1) E = true := fun q hq => by
        unfold hitW
        rw [decide_eq_true_eq, hE0]
        refine ⟨rfl, ?_⟩
        show (q.1, q.1 + ws) ∈ swins (max ss (-1099511627776)) ws we
        rw [← hT, ← (hTq q hq).1]
        exact hq
       obtain ⟨lt, hltT⟩ : ∃ lt, T.length = lt := ⟨_, rfl⟩
       rw [hltT] at hTl
       have HE0 := Lib.hid hE0; have HTQ := Lib.hid hTq; have HTN := Lib.hid hTn; have HOF := Lib.hid hof; have HALL := Lib.hid hall; have HGOOD := Lib.hid hgood; have HHIT := Lib.hid hhit; have HLT := Lib.hid hltT
       clear hE0 hT hTw hTq hTn hof hall hgood hhit hltT
       go_wp2_with fail
       go_at_call 39
       refine (HOF.out _).mono ?_
       rintro r w7 ⟨v7, rfl, own7, hb7⟩
       obtain ⟨A7, c7, rfl, -⟩ := own_shape_n own7 HLT.out
       have hl7 := (hl6.new [.int .i64 kk, .int .i64 ss] 104).new [.int .i64 cc, .int .i64 tt, .int .i64 mm, .int .i64 xx] 57
       rw [World.size_alloc] at hl7
       have hba : Below w6.heap.size w6 ((w6.alloc (.cells #[.int .i64 kk, .int .i64 ss] 104)).alloc (.cells #[.int .i64 cc, .int .i64 tt, .int .i64 mm, .int .i64 xx] 57)) := below_new (below_new (Below.refl _ _) _) _
       have hl8 := hl7.below hb7
       have hb8 := below_then (below_then hb6 hba) hb7
       have hF8 := (hF6.below hba).below hb7
       have hrg8 := (hrg6.below hba).below hb7
       have hz6q := hF6.lt
       have own8 := own7.mono hba.size
       clear hF hl6 hb6 hF6 hrg6 hl7 hba own7 hb7 hent
       have hF := hl8
       (repeat unfold Loc at hF)
       go_wp2_with fail
       go_loopw [99, 19] (fun iv _ wr => ∃ j : Nat, iv = .int .i64 j ∧ j ≤ lt ∧ RangeAt wr w4.heap.size (wq.heap.size + 1) M (D ++ [E]) ∧ MapF wr wq.heap.size (midF ws we D E (T.take j)) ∧ Loc wr [(w6.heap.size + 1, [.int .i64 cc, .int .i64 tt, .int .i64 mm, .int .i64 xx]), (w6.heap.size, [.int .i64 kk, .int .i64 ss]), (w.heap.size, [.int .u8 2, .int .i64 ws, .int .i64 we])] ∧ Below w.heap.size w wr ∧ Own senc 2 wr w6.heap.size 59 (.slice A7 lt c7) T) (fun iv _ _ => lt - (intOf iv).toNat)
       case atStart => exact ⟨0, rfl, Nat.zero_le _, hrg8, by rw [List.take_zero, midF_nil]; exact hF8, hl8, hb8, own8⟩
       case round =>
        obtain ⟨j, rfl, hj, hrg9, hF9, hl9, hb9, own9⟩ := hrel
        clear hF hl8 hb8 own8 hrg8 hF8
        have hF := hl9
        (repeat unfold Loc at hF)
        by_cases hjlt : j < lt
        ·obtain ⟨⟨qs, qe⟩, hq⟩ : ∃ q, T[j]? = some q := ⟨_, List.getElem?_eq_getElem (by rw [HLT.out]; exact hjlt)⟩
         have hqm := List.mem_of_getElem? hq
         obtain ⟨b', off', hA7, hbb', f0, f1⟩ := span_cells (Own.rd senc_len own9) hq
         dsimp only at f0 f1
         subst hA7
         obtain ⟨t1, t2, t3⟩ := HTQ.out _ hqm
         dsimp only at t1 t2 t3
         obtain ⟨⟨c0, s0, m0, x0⟩, hA0⟩ : ∃ a, a = sumA (D.filter (hitW ws we (kk, qs))) := ⟨_, rfl⟩
         obtain ⟨⟨jc, js, jm, jx⟩, hJ⟩ : ∃ J, J = aboth ⟨c0, s0, m0, x0⟩ ⟨cc, tt, mm, xx⟩ := ⟨_, rfl⟩
         have hjo := fun W => ajoin_any c0 s0 m0 x0 cc tt mm xx W
         have hj2 : ajoin ⟨c0, s0, m0, x0⟩ ⟨cc, tt, mm, xx⟩ = (⟨jc, js, jm, jx⟩, 0) := by
          have h := sum_one HGOOD.out (by have := H240.out; omega) (hitW ws we (kk, qs)) (HHIT.out _ hqm)
          rw [HE0.out] at h
          dsimp only at h
          rw [← hA0, ← hJ] at h
          exact h
         rw [hj2] at hjo
         simp only at hjo
         have hnot : (qs, qs + ws) ∉ T.take j := fun h => by
          obtain ⟨i, hi, he⟩ := List.getElem_of_mem h
          rw [List.length_take] at hi
          rw [List.getElem_take] at he
          have hjl : j < T.length := by rw [HLT.out]; exact hjlt
          have h1 := (List.pairwise_iff_getElem.1 HTN.out) i j (by omega) hjl (by omega)
          have h2 : T[j] = (qs, qe) := by
           rw [List.getElem?_eq_getElem hjl] at hq
           exact Option.some.inj hq
          rw [he, h2] at h1
          exact absurd h1 (by simp)
         have hlook : ∀ X, MapF X wq.heap.size (midF ws we D E (T.take j)) → (Instr.lookup 100 (.map (some wq.heap.size)) (.agg #[.int .i64 kk, .int .i64 qs]) false).run Tryz.prog X = .ok (.agg #[.int .i64 c0, .int .i64 s0, .int .i64 m0, .int .i64 x0]) X := fun X hX => by
          have := hX.look (kk, qs)
          rw [midF_get hnot, ← hA0] at this
          exact this
         have hnew : (fun k' => if k' = (kk, qs) then some (⟨jc, js, jm, jx⟩ : Acc) else midF ws we D E (T.take j) k') = midF ws we D E (T.take (j + 1)) := by
          rw [List.take_add_one, hq, Option.toList]
          have h := midF_snoc (ws := ws) (we := we) (D := D) (e := E) (T := T.take j) (q := (qs, qe)) t1 ⟨jc, js, jm, jx⟩ (by rw [HE0.out]; dsimp only; rw [← hA0]; exact hJ)
          rw [← h, HE0.out]
         have d6 : decide ((j : Int) < (lt : Int)) = true := by simp; omega
         have d6' : decide (j < lt) = true := by simp [hjlt]
         have k1 : (0 : Int) ≤ (j : Int) := by omega
         have k2 : (j : Int) < (lt : Int) := by omega
         have e1 : IntKind.i64.wrap ((j : Int) + 1) = (j : Int) + 1 := IntWalk.i64_in _ (by omega)
         have HJO := Lib.hid hjo; have HLOOK := Lib.hid hlook; have HNEW := Lib.hid hnew; have HQ := Lib.hid t1
         clear hjo hlook hnew hA0 hJ hj2 hnot hqm hq hjlt t1 t2 t3
         have hY : Below wr.heap.size wr ((wr.alloc (.cells #[.int .i64 qs, .int .i64 qe] 59)).alloc (.cells #[.int .i64 kk, .int .i64 qs] 104)).drew := below_drew (below_new (below_new (Below.refl _ _) _) _)
         have hlY := (hl9.new [.int .i64 qs, .int .i64 qe] 59).new [.int .i64 kk, .int .i64 qs] 104
         rw [World.size_alloc] at hlY
         obtain ⟨lE, hlE⟩ : ∃ lE, lE = [(wr.heap.size + 1, [Value.int .i64 kk, .int .i64 qs]), (wr.heap.size, [.int .i64 qs, .int .i64 qe]), (w6.heap.size + 1, [.int .i64 cc, .int .i64 tt, .int .i64 mm, .int .i64 xx]), (w6.heap.size, [.int .i64 kk, .int .i64 ss]), (w.heap.size, [.int .u8 2, .int .i64 ws, .int .i64 we])] := ⟨_, rfl⟩
         have hE : Env w lE ((wr.alloc (.cells #[.int .i64 qs, .int .i64 qe] 59)).alloc (.cells #[.int .i64 kk, .int .i64 qs] 104)) := ⟨below_new (below_new hb9 _) _, by rw [hlE]; exact hlY⟩
         have hR : ∀ X, Env w lE X → Loc X [(wr.heap.size + 1, [Value.int .i64 kk, .int .i64 qs]), (wr.heap.size, [.int .i64 qs, .int .i64 qe]), (w6.heap.size + 1, [.int .i64 cc, .int .i64 tt, .int .i64 mm, .int .i64 xx]), (w6.heap.size, [.int .i64 kk, .int .i64 ss]), (w.heap.size, [.int .u8 2, .int .i64 ws, .int .i64 we])] := fun X hX => hlE ▸ hX.2
         have hwz := hl9.1
         have hne : ∀ q ∈ lE, q.1 ≠ wq.heap.size := by rw [hlE]; simp; omega
         have HR := Lib.hid hR; have HNE := Lib.hid hne
         (repeat unfold Loc at hR)
         have hlk := HLOOK.out _ (hF9.below hY)
         clear hlE hlY hwz hne
         go_wp2_with fail
         clear hF
         refine hB (Env w lE) fun hHeld => ?_
         refine hT 0 ?_; refine hT 1 ?_; refine hT 2 ?_; refine hT 3 ?_; refine hT 5 ?_
         refine hC 4 fun K hK => ?_; go_simp
         (refine hKp hK fun hHeld => ?_; clear hK K)
         refine hC 6 fun K hK => ?_; go_simp
         go_at_call 37
         refine (HJO.out _).mono ?_
         rintro r w11 ⟨rfl, hb11⟩
         have hEhb11 := Env.step hb11 (by assumption); (try (have hqhb11 := kq hb11; (repeat rw [World.size_drew] at hqhb11); (repeat rw [World.size_alloc] at hqhb11); have hrhb11 := hqhb11; (repeat unfold Loc at hrhb11)))
         (refine hKp hK fun hHeld => ?_; clear hK K)
         refine hT 7 ?_; refine hT 8 ?_; refine hT 9 ?_
         have hY11 := below_then hY hb11
         refine hOnly 10 (by kernel_rfl) (by decide) ?_
         (intro oi hoi; simp only [List.getElem?_toArray, List.getElem?_cons_succ, List.getElem?_cons_zero] at hoi; obtain rfl := Option.some.inj hoi; clear hoi); intro K hK
         rw [if_pos (by kernel_rfl)]
         refine oper_putP (.tmp 109) (.tmp 110) (.tmp 116) rfl wq.heap.size _ rfl (hF9.below hY11) (kk, qs) ⟨jc, js, jm, jx⟩ rfl rfl ?_
         intro w12 hm12 hg12 hz12
         refine hK.out _ _ (Env.grownB hHeld hg12 (by omega) HNE.out) (fun hHeld => ?_)
         clear hK K hz12
         (try simp only [Act.put])
         refine hT 11 ?_
         refine hD ?_
         rw [HNEW.out] at hm12
         have hlW := (HR.out _ hHeld).tl.tl
         have hbW := hHeld.1
         have hrW := (hrg9.below hY11).grown hg12 (by simp; omega) (by simp)
         have ownW := (own9.below hY11).grown hg12 (own_apart own9 hz6q)
         clear hR hlk hY hY11 hg12
         have hF := hlW
         (repeat unfold Loc at hF)
         go_wp2_with fail
         go_roundw
         case rel => exact ⟨j + 1, by go_num, by omega, hrW, hm12, hlW, hbW, ownW⟩
         case measure => simp [intOf]; omega
        ·obtain rfl : j = lt := by omega
         have d6 : decide ((j : Int) < (j : Int)) = false := by simp
         have d6' : decide (j < j) = false := by simp
         rw [List.take_of_length_le (by rw [HLT.out]; exact Nat.le_refl _), HALL.out] at hF9
         clear hjlt
         go_wp2_with fail
         go_roundw
         case rel => exact ⟨D ++ [E], hrg9, hF9, hl9.tl.tl, hb9⟩
         case measure => rw [hrg9.doneN, hrg.doneN, List.length_append, List.length_singleton]; omega
 ·have d0 : (C != 0) = true := by simp [hC0]
  have hR2 : R = ([], C) := by rw [HR.out]; unfold pvals; rw [← HC.out, if_pos hC0]
  subst hR2
  clear hC0
  go_enter Tryz.func16, Tryz.ntmps16
  go_wp2_with fail
  go_at_call 34
  refine (HSL.out _).mono ?_
  rintro r w3 ⟨rfl, hb3⟩
  go_wp2
  go_ret2
  exact ⟨.slice none 0 0, rfl, Own.nil _ _ _, below_then hb0 hb3⟩
end Go.Proofs.YtnljihjhmgpcoaaGreat
