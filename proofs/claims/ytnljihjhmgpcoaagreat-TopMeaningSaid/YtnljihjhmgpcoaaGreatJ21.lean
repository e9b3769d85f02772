/- Lemmas and contracts for the statement, joined into one text: SessMerged, SessCanon, SessAdd. The conditions of each stand at its head. -/
import Derived.Test.YtnljihjhmgpcoaaGreatJ6
import Derived.Test.YtnljihjhmgpcoaaGreatJ19
import Derived.Test.YtnljihjhmgpcoaaGreatJ20
namespace Go.Proofs.YtnljihjhmgpcoaaGreat
open Go.RowKit
theorem sortS_own (v : Value) (n base : Nat) (l : List (Int × Int)) (w : World) (hl : l.length = n) (hn : n ≤ 1099511627776) (hown : Own senc 2 w base 59 v l) :
  Calls Tryz.prog 126 #[v, .func (.func 127) #[] #[]] w fun e w' => e = .returned (.tuple #[]) ∧
   ∃ l', l'.Perm l ∧ (l'.Pairwise fun a b => a.1 ≤ b.1) ∧ Own senc 2 w' base 59 v l' ∧ w.grownBy w' v.ownBlock := by
 rcases hown.2 with ⟨rfl, h0⟩ | ⟨g, cap, cur, rfl, _⟩
 ·obtain rfl : l = [] := List.eq_nil_of_length_eq_zero h0
  refine (sortS_none _ w).mono ?_
  rintro e w' ⟨he, rfl⟩
  exact ⟨he, [], List.Perm.refl _, List.Pairwise.nil, Own.nil _ _ _, grown_refl _ _⟩
 ·rw [hl] at hown ⊢
  exact sortS_any g n cap base l w hl hn hown
theorem mergeS_snoc (l : List (Int × Int)) (k : Nat) (x : Int × Int) (hx : l[k]? = some x) : mergeS (l.take (k + 1)) = mstep (mergeS (l.take k)) x := by
 rw [List.take_add_one, hx]
 simp [mergeS]
theorem mstep_len (o : List (Int × Int)) (x : Int × Int) : (mstep o x).length ≤ o.length + 1 := by
 rcases List.eq_nil_or_concat o with rfl | ⟨o, p, rfl⟩
 ·simp [mstep]
 ·rw [List.concat_eq_append, mstep_snoc]
  split <;> simp
set_option maxHeartbeats 8000000 in
set_option maxRecDepth 100000 in
theorem merged_any (A : Option Addr) (c n : Nat) (l : List (Int × Int)) (w : World) (hln : l.length = n) (hz : A = none → c = 0) (hn : n ≤ 1099511627776) (hr : Rd senc 2 w w.heap.size A l) :
  Calls Tryz.prog 90 #[.slice A n c] w fun e w' => ∃ v l', e = .returned v ∧ l'.Perm l ∧ (l'.Pairwise fun a b => a.1 ≤ b.1) ∧ Own senc 2 w' w.heap.size 59 v (mergeS l') ∧ Below w.heap.size w w' := by
 obtain ⟨i0, hi0, hz0, hz1, hz2⟩ := info_parts sp_info
 have HZ := Lib.hid hz; have HL := Lib.hid hln
 clear hz hln
 go_enter Tryz.func90, Tryz.ntmps90
 go_wp2_with fail
 go_at_call 125
 refine (sclone_any A c n l _ HL.out HZ.out hn hr).mono ?_
 rintro r w1 ⟨v1, rfl, own1, hb1⟩
 go_wp2_with fail
 go_at_call 126
 refine (sortS_own v1 n w.heap.size l _ HL.out hn own1).mono ?_
 rintro r w2 ⟨rfl, l', hp, hs, own2, hg2⟩
 have hb2 : Below w.heap.size w w2 := hb1.grown hg2 hb1.size (fun k hk => (World.ownsRow.lt own1 k hk).1)
 have hl' : l'.length = n := hp.length_eq.trans HL.out
 obtain ⟨A2, c2, rfl⟩ : ∃ A c, v1 = .slice A n c := by have h := own_shape own2; rwa [hl'] at h
 have hrd2 := Own.rd senc_len own2
 have HL2 := Lib.hid hl'; have HP := Lib.hid hp; have HS := Lib.hid hs
 clear own1 hg2 hb1 hl' hp hs own2
 go_wp2_with fail
 go_loopw [3, 13] (fun o i wr => ∃ (k m : Nat) (os : List (Int × Int)), k ≤ n ∧ i = .int .i64 k ∧ os = mergeS (l'.take k) ∧ os.length = m ∧ m ≤ k ∧ Own senc 2 wr w2.heap.size 59 o os ∧ Below w2.heap.size w2 wr) (fun _ i _ => n - (intOf i).toNat)
 case atStart => exact ⟨0, 0, [], Nat.zero_le _, rfl, rfl, rfl, Nat.le_refl _, Own.nil _ _ _, Below.refl _ _⟩
 case round =>
  obtain ⟨k, m, os, hk, rfl, hos, hom, hmk, howo, hb⟩ := hrel
  by_cases h1 : k < n
  ·obtain ⟨x, hx⟩ : ∃ x, l'[k]? = some x := ⟨_, List.getElem?_eq_getElem (by rw [HL2.out]; exact h1)⟩
   have hnx := mergeS_snoc l' k x hx
   rw [← hos] at hnx
   obtain ⟨b, off, rfl, hbB, f1, f2⟩ := span_cells hrd2 hx
   have g1 := (hb.cell (p := ⟨b, off + k * 2, none⟩) hbB).trans f1
   have g2 := (hb.cell (p := ⟨b, off + k * 2 + 1, none⟩) hbB).trans f2
   have hbw : b < wr.heap.size := Nat.lt_of_lt_of_le hbB hb.size
   have d1 : decide ((k : Int) < (n : Int)) = true := by simp; omega
   have d1' : decide (k < n) = true := by simp [h1]
   have i1 : (0 : Int) ≤ (k : Int) := by omega
   have i2 : (k : Int) < (n : Int) := by omega
   have e1 : IntKind.i64.wrap ((k : Int) + 1) = (k : Int) + 1 := IntWalk.i64_in _ (by omega)
   obtain ⟨x1, x2⟩ := x
   dsimp only at g1 g2
   obtain ⟨Ao, co, rfl⟩ : ∃ A c, u3 = .slice A m c := by have h := own_shape howo; rwa [hom] at h
   have HNX := Lib.hid hnx; have HOM := Lib.hid hom
   clear hx hnx f1 f2 hos
   rcases List.eq_nil_or_concat os with rfl | ⟨o', p, rfl⟩
   ·have hm0 : m = 0 := hom.symm
    have b5 : decide ((0 : Int) < (m : Int)) = false := by simp; omega
    have b5' : decide (0 < m) = false := by simp; omega
    have HM0 := Lib.hid hm0
    clear hm0 hom
    go_wp2_with fail
    (refine wp_region_quiet_lit (by kernel_rfl) (by kernel_rfl) ?_; (repeat (any_goals (first | go_big_quiet_step (fail) | quiet_step (fail)))); all_goals (refine wpQuiet_nil ?_; intro _ hw'; obtain ⟨nq, hw''⟩ := hw'; subst hw''))
    go_wp2_with (at_builtin; refine wpList_append_elem rfl _ _ 108 rfl w2.heap.size 59 i0 (.agg #[.int .i64 0, .int .i64 0]) 2 16 Tryz.underlying108 hi0 hz0 hz1 hz2 rfl (by decide) senc senc_len _ _ (x1, x2) rfl ((howo.below (below_drewN (below_new (Below.refl _ _) (.cells #[.int .i64 x1, .int .i64 x2] 59)) nq)).alloc (.cells #[.int .i64 x1, .int .i64 x2] 59)) ⟨wr.heap.size + 1, 0, none⟩ 1 rfl (by intro j u hj; exact sp_new _ (x1, x2) 59 (wr.heap.size + 1) (by simp [World.drewN]) j u (by simpa using hj)) (by have := senc_one [(x1, x2)]; simpa using this) (by unfold maxLen; have := HOM.out; omega) (by have := HOM.out; omega) (by have := hb.size; simp [World.drewN]; omega) ?_; intro v' w5 hown' hgrow hbel)
    have hb5 : Below w2.heap.size w2 w5 := by
     have h1 := hb.alloc hb.size (.cells #[.int .i64 x1, .int .i64 x2] 59)
     have h2 := below_drewN h1 nq
     exact (h2.alloc h2.size (.cells #[.int .i64 x1, .int .i64 x2] 59)).trans hbel
    clear hgrow hbel
    go_wp2
    go_roundw
    case rel => exact ⟨k + 1, m + 1, [(x1, x2)], by omega, by go_num, by rw [HNX.out]; rfl, by rw [HM0.out]; rfl, by omega, hown', hb5⟩
    case measure => simp [intOf]; omega
   ·rw [List.concat_eq_append] at hom howo HNX HOM
    have hol : o'.length + 1 = m := by simpa using hom
    obtain ⟨q, hq⟩ : ∃ q, q = o'.length := ⟨_, rfl⟩
    have hpx : (o' ++ [p])[q]? = some p := by rw [hq]; simp
    obtain ⟨p1, p2⟩ := p
    have b5 : decide ((0 : Int) < (m : Int)) = true := by simp; omega
    have b5' : decide (0 < m) = true := by simp; omega
    have e2 : IntKind.i64.wrap ((m : Int) - 1) = (q : Int) := by rw [IntWalk.i64_in _ (by omega)]; omega
    have i3 : (0 : Int) ≤ (q : Int) := by omega
    have i4 : (q : Int) < (m : Int) := by omega
    obtain ⟨g, co', hv, hbg, hglt⟩ := World.ownsRow.form howo (by simp)
    rw [hom] at hv
    simp only [Value.slice.injEq, true_and] at hv
    obtain ⟨rfl, rfl⟩ := hv
    obtain ⟨c1, c2, -⟩ := own_sp howo hpx
    dsimp only at c1 c2
    have hgb : g ≠ b := by omega
    have hms := mstep_snoc o' (p1, p2) (x1, x2)
    have HOL := Lib.hid hol; have HQ := Lib.hid hq; have HPX := Lib.hid hpx
    by_cases hlt : x1 < p2
    ·have b6 : decide (x1 < p2) = true := by simp [hlt]
     have hr : mergeS (l'.take (k + 1)) = o' ++ [(p1, max p2 x2)] := by rw [HNX.out, hms, if_pos hlt]
     have HR := Lib.hid hr
     have frz : ∀ j, wr.frozen? ⟨g, j, none⟩ = false := fun j => by have h := howo; unfold Own at h; exact World.ownsRow.frozenAt (n := (o' ++ [(p1, p2)]).length) (by rw [hom]; rw [hom] at h; exact h) j
     clear hr hms hol hq hpx hom
     go_wp2_with fail
     (refine wp_region_quiet_lit (by kernel_rfl) (by kernel_rfl) ?_; (repeat (any_goals (first | go_big_quiet_step (fail) | quiet_step (fail)))); all_goals (refine wpQuiet_nil ?_; intro _ hw'; obtain ⟨nq, hw''⟩ := hw'; subst hw''))
     go_wp2_with fail
     go_region
     all_goals
      go_wp2
      go_roundw
      case rel =>
       have hoa := howo.below (below_drewN (below_new (Below.refl _ _) (.cells #[.int .i64 x1, .int .i64 x2] 59)) (nq + 1))
       have hoe := (own_end hoa (by rw [HOM.out]) HPX.out (max p2 x2)).1
       rw [show (o' ++ [(p1, p2)]).set q (p1, max p2 x2) = o' ++ [(p1, max p2 x2)] by rw [HQ.out]; simp] at hoe
       exact ⟨k + 1, m, o' ++ [(p1, max p2 x2)], by omega, by go_num, by rw [HR.out], by have := HOM.out; simp at this ⊢; omega, by omega, hoe, (below_drewN' (hb.alloc hb.size _) _).setCell hbg _⟩
      case measure => simp [intOf]; omega
    ·have b6 : decide (x1 < p2) = false := by simp; omega
     have hr : mergeS (l'.take (k + 1)) = (o' ++ [(p1, p2)]) ++ [(x1, x2)] := by rw [HNX.out, hms, if_neg hlt]; simp
     have HR := Lib.hid hr
     clear hr hms hol hq hpx hom
     go_wp2_with fail
     (refine wp_region_quiet_lit (by kernel_rfl) (by kernel_rfl) ?_; (repeat (any_goals (first | go_big_quiet_step (fail) | quiet_step (fail)))); all_goals (refine wpQuiet_nil ?_; intro _ hw'; obtain ⟨nq, hw''⟩ := hw'; subst hw''))
     go_wp2_with (at_builtin; refine wpList_append_elem rfl _ _ 108 rfl w2.heap.size 59 i0 (.agg #[.int .i64 0, .int .i64 0]) 2 16 Tryz.underlying108 hi0 hz0 hz1 hz2 rfl (by decide) senc senc_len _ _ (x1, x2) rfl ((howo.below (below_drewN (below_new (Below.refl _ _) (.cells #[.int .i64 x1, .int .i64 x2] 59)) nq)).alloc (.cells #[.int .i64 x1, .int .i64 x2] 59)) ⟨wr.heap.size + 1, 0, none⟩ 1 rfl (by intro j u hj; exact sp_new _ (x1, x2) 59 (wr.heap.size + 1) (by simp [World.drewN]) j u (by simpa using hj)) (by have := senc_one [(x1, x2)]; simpa using this) (by unfold maxLen; have := HOM.out; omega) (by have := HOM.out; omega) (by have := hb.size; simp [World.drewN]; omega) ?_; intro v' w5 hown' hgrow hbel)
     have hb5 : Below w2.heap.size w2 w5 := by
      have h1 := hb.alloc hb.size (.cells #[.int .i64 x1, .int .i64 x2] 59)
      have h2 := below_drewN h1 nq
      exact (h2.alloc h2.size (.cells #[.int .i64 x1, .int .i64 x2] 59)).trans hbel
     clear hgrow hbel
     go_wp2
     go_roundw
     case rel => exact ⟨k + 1, m + 1, (o' ++ [(p1, p2)]) ++ [(x1, x2)], by omega, by go_num, by rw [HR.out], by have := HOM.out; simp at this ⊢; omega, by omega, hown', hb5⟩
     case measure => simp [intOf]; omega
  ·have d1 : decide ((k : Int) < (n : Int)) = false := by simp; omega
   have d1' : decide (k < n) = false := by simp [h1]
   obtain rfl : k = n := by omega
   have hfin : os = mergeS l' := by rw [hos, List.take_of_length_le (by rw [HL2.out]; omega)]
   have HF := Lib.hid hfin
   clear hfin hos
   go_wp2
   go_ret
   exact ⟨_, l', rfl, HP.out, HS.out, by rw [← HF.out]; exact howo.mono hb2.size, hb2.trans (hb.mono hb2.size)⟩
/-- Spans merged, in whatever order they lie. -/
def canon (l : List (Int × Int)) : List (Int × Int) := mergeS (l.mergeSort fun a b => decide (a.1 ≤ b.1))
theorem canon_sorted (l : List (Int × Int)) : (l.mergeSort fun a b => decide (a.1 ≤ b.1)).Pairwise fun a b => a.1 ≤ b.1 := by
 have h := List.pairwise_mergeSort (le := fun (a b : Int × Int) => decide (a.1 ≤ b.1)) (by intro a b c h1 h2; simp at *; omega) (by intro a b; simp; omega) l
 exact h.imp (by intro a b h; simpa using h)
theorem canon_eq {l l' : List (Int × Int)} (hn : ∀ x ∈ l, x.1 < x.2) (hp : l'.Perm l) (hs : l'.Pairwise fun a b => a.1 ≤ b.1) : mergeS l' = canon l :=
 mergeS_perm (fun x hx => hn x (hp.mem_iff.1 hx)) hs (canon_sorted l) (hp.trans (List.mergeSort_perm l _).symm)
theorem canon_good {l : List (Int × Int)} (hn : ∀ x ∈ l, x.1 < x.2) : Good (canon l) ∧ ∀ z, Cov (canon l) z ↔ Cov l z := by
 obtain ⟨h1, h2⟩ := mergeS_good (l.mergeSort fun a b => decide (a.1 ≤ b.1)) (fun x hx => hn x ((List.mergeSort_perm l _).mem_iff.1 hx)) (canon_sorted l)
 exact ⟨h1, fun z => (h2 z).trans (cov_perm (List.mergeSort_perm l _) z)⟩
theorem canon_same {l : List (Int × Int)} (hg : Good l) : canon l = l := by
 obtain ⟨a1, a2⟩ := canon_good (fun x hx => good_mem hg x hx)
 exact good_unique a1 hg a2
theorem mergeS_len (l : List (Int × Int)) : (mergeS l).length ≤ l.length := by
 suffices H : ∀ (l o : List (Int × Int)), (l.foldl mstep o).length ≤ o.length + l.length by simpa [mergeS] using H l []
 intro l
 induction l with
 | nil => intro o; simp
 | cons x l ih => intro o; have h1 := ih (mstep o x); have h2 := mstep_len o x; simp only [List.foldl_cons, List.length_cons]; omega
theorem canon_len (l : List (Int × Int)) : (canon l).length ≤ l.length := by
 have := mergeS_len (l.mergeSort fun a b => decide (a.1 ≤ b.1))
 rwa [List.length_mergeSort] at this
set_option maxHeartbeats 2000000 in
set_option maxRecDepth 100000 in
theorem smerged_any (A : Option Addr) (c n : Nat) (l : List (Int × Int)) (w : World) (hln : l.length = n) (hz : A = none → c = 0) (hn : n ≤ 1099511627776) (hne : ∀ x ∈ l, x.1 < x.2) (hr : Rd senc 2 w w.heap.size A l) :
  Calls Tryz.prog 90 #[.slice A n c] w fun e w' => ∃ v, e = .returned v ∧ Own senc 2 w' w.heap.size 59 v (canon l) ∧ Below w.heap.size w w' := by
 refine (merged_any A c n l w hln hz hn hr).mono ?_
 rintro e w' ⟨v, l', he, hp, hs, ho, hb⟩
 rw [canon_eq hne hp hs] at ho
 exact ⟨v, he, ho, hb⟩
theorem sck_zero {t g : Int} (h : sck t g = 0) : 1 ≤ g ∧ g ≤ 1073741824 ∧ -1099511627776 ≤ t ∧ t ≤ 1099511627776 := by unfold sck at h; grind
end Go.Proofs.YtnljihjhmgpcoaaGreat
