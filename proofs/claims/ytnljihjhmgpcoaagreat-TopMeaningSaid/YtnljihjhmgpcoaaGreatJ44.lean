/- Lemmas and contracts for the statement, joined into one text: GraphTF, GraphFT. The conditions of each stand at its head. -/
import Derived.Test.YtnljihjhmgpcoaaGreatJ43
namespace Go.Proofs.YtnljihjhmgpcoaaGreat
open Go Go.RowKit Go.ChangeShapes Go.WideShapes Go.ChangeAt Go.Deep
set_option maxHeartbeats 64000000 in
set_option maxRecDepth 100000 in
theorem graphTF_any (q : Qy) (hq : q.good) (hky : q.ky = true) (hjo : q.jo = false) (m : Nat) (hm : 1 ≤ m ∧ m ≤ 3) (S : Option Addr) (ns cs : Nat) (A B C : Option Addr) (na ca nb cb nc cc : Nat) (w : World) (h : PlRd w q S ns A B C na ca nb cb nc cc) :
  Calls Tryz.prog 28 #[PlanV q S ns cs A B C na ca nb cb nc cc, .int .i64 m, .int .i64 1] w (GraphP q m w) := by
 have HCK := Lib.hid (fun W (hb : Below w.heap.size w W) => pcheck_any q hq S ns cs A B C na ca nb cb nc cc W ⟨h.1, h.2.1.grow hb, h.2.2.grow hb⟩)
 unfold GraphP
 have hnb : q.src.length = nb := h.2.2.2.1.1
 have hn4 : 1 ≤ nb ∧ nb ≤ 4 := by have := hq.src.1; omega
 rw [hnb]
 have hsd : (q.la == 2) = decide (q.la = 2) := rfl
 obtain ⟨sd, hsde⟩ : ∃ sd, decide (q.la = 2) = sd := ⟨_, rfl⟩
 rw [hsde] at hsd ⊢
 obtain ⟨qb, hqb⟩ : ∃ qb, w.heap.size = qb := ⟨_, rfl⟩
 have HQB := Lib.hid hqb
 have hl0 := (((Loc.nil w).new [.slice S ns cs, .int .u8 q.ag, .slice A na ca, .slice B nb cb, .bool q.jo, .slice C nc cc, .int .u8 q.wk, .int .i64 q.ws, .int .i64 q.we, .bool q.ky, .int .u8 q.la] 82).new [.int .i64 1] 3).new [.slice none 0 0, .slice none 0 0] 88
 rw [World.size_alloc, World.size_alloc, hqb] at hl0
 have hb0 : Below w.heap.size w (((w.alloc (.cells #[.slice S ns cs, .int .u8 q.ag, .slice A na ca, .slice B nb cb, .bool q.jo, .slice C nc cc, .int .u8 q.wk, .int .i64 q.ws, .int .i64 q.we, .bool q.ky, .int .u8 q.la] 82)).alloc (.cells #[.int .i64 1] 3)).alloc (.cells #[.slice none 0 0, .slice none 0 0] 88)) := below_new (below_new (below_new (Below.refl _ _) _) _) _
 have hF := hl0
 (repeat unfold Loc at hF)
 have m1 : decide ((m : Int) < 1) = false := by simp; omega
 have m2 : decide (3 < (m : Int)) = false := by simp; omega
 unfold PlanV at HCK ⊢
 clear h hsde hnb hq
 rw [hjo, hky] at hF hl0 hb0 HCK ⊢
 clear hjo hky
 go_enter Tryz.func28, Tryz.ntmps28
 (try simp only [hqb])
 go_wp2_with fail
 go_at_call 63
 refine (HCK.out _ hb0).mono ?_
 rintro r x2 ⟨rfl, hb2⟩
 replace hl0 := hl0.below hb2
 have hb3 := below_then hb0 hb2
 clear hF hb2 hb0
 have hF := hl0
 (repeat unfold Loc at hF)
 go_upto_region 8 with (fail)
 obtain ⟨gb, hgb⟩ : ∃ gb, x2.heap.size = gb := ⟨_, rfl⟩
 have hqg : qb + 3 ≤ gb := by have := hl0.1; omega
 have hg3 : GrS gb [] [] (x2.alloc (.cells #[.slice none 0 0, .slice none 0 0] 88)) := by
  have h1 := (Loc.nil x2).new [.slice none 0 0, .slice none 0 0] 88
  rw [hgb] at h1
  exact ⟨_, _, h1, Own.nil _ _ _, Own.nil _ _ _⟩
 have hl3 := hl0.old (.cells #[.slice none 0 0, .slice none 0 0] 88)
 have hb4 : Below w.heap.size w (x2.alloc (.cells #[.slice none 0 0, .slice none 0 0] 88)) := below_new hb3 _
 (try simp only [hgb])
 generalize hX3 : x2.alloc (.cells #[.slice none 0 0, .slice none 0 0] 88) = X3 at hl3 hg3 hb4 ⊢
 clear hX3 hF hl0 hb3 hgb
 have hbx : ∀ z ∈ ([(qb + 1 + 1, [.slice none 0 0, .slice none 0 0]), (qb + 1, [.int .i64 1]), (qb, [.slice S ns cs, .int .u8 q.ag, .slice A na ca, .slice B nb cb, .bool false, .slice C nc cc, .int .u8 q.wk, .int .i64 q.ws, .int .i64 q.we, .bool true, .int .u8 q.la])] : List (Nat × List Value)), z.1 < gb := by
  intro z hz
  simp only [List.mem_cons, List.not_mem_nil, or_false] at hz
  rcases hz with rfl | rfl | rfl <;> (simp only; omega)
 have hroom : ∀ W, Below gb X3 W → W.cell? ⟨qb + 1, 0, none⟩ = some (.int .i64 1) := fun W hb => by
  have h1 := hl3.belowB hb hbx
  simpa using h1.2.2.2.2.1 0
 have hb3 : Below gb X3 X3 := Below.refl _ _
 have hF := hl3
 (repeat unfold Loc at hF)
 go_wp2_with fail
 go_at_call 64
 refine (gadd_any gb _ _ _ nb _ (by simp only [List.length_nil]; omega) (by omega) hg3).mono ?_
 rintro r y1 ⟨rfl, hgy1, hcy1⟩
 have hby1 := hb3.trans hcy1
 clear hF
 have hly1 := hl3.belowB hby1 hbx
 have hF := hly1
 (repeat unfold Loc at hF)
 go_wp2_with fail
 go_at_call 64
 refine (gadd_any gb _ _ _ nb _ (by (try simp only [List.length_append, opR_len, List.length_nil]); omega) (by omega) hgy1).mono ?_
 rintro r y2 ⟨rfl, hgy2, hcy2⟩
 have hby2 := hby1.trans hcy2
 rw [(by simp only [List.length_append, opR_len, List.length_nil]; omega : (([] : List Opn) ++ opR 1 nb).length = nb)]
 clear hF
 have hly2 := hl3.belowB hby2 hbx
 have hF := hly2
 (repeat unfold Loc at hF)
 go_wp2_with fail
 go_at_call 64
 refine (gadd_any gb _ _ _ nb _ (by (try simp only [List.length_append, opR_len, List.length_nil]); omega) (by omega) hgy2).mono ?_
 rintro r y3 ⟨rfl, hgy3, hcy3⟩
 have hby3 := hby2.trans hcy3
 rw [(by simp only [List.length_append, opR_len, List.length_nil]; omega : (([] : List Opn) ++ opR 1 nb ++ opR 2 nb).length = 2 * nb)]
 clear hF
 have hly3 := hl3.belowB hby3 hbx
 have hF := hly3
 (repeat unfold Loc at hF)
 go_wp2_with fail
 go_at_call 64
 refine (gadd_any gb _ _ _ m _ (by (try simp only [List.length_append, opR_len, List.length_nil]); omega) (by omega) hgy3).mono ?_
 rintro r y4 ⟨rfl, hgy4, hcy4⟩
 have hby4 := hby3.trans hcy4
 rw [(by simp only [List.length_append, opR_len, List.length_nil]; omega : (([] : List Opn) ++ opR 1 nb ++ opR 2 nb ++ opR 3 nb).length = 3 * nb)]
 clear hF
 have hly4 := hl3.belowB hby4 hbx
 have hF := hly4
 (repeat unfold Loc at hF)
 go_wp2_with fail
 go_at_call 64
 refine (gadd_any gb _ _ _ 1 _ (by (try simp only [List.length_append, opR_len, List.length_nil]); omega) (by omega) hgy4).mono ?_
 rintro r y5 ⟨rfl, hgy5, hcy5⟩
 have hby5 := hby4.trans hcy5
 generalize hsk : List.length _ = sk
 have hsk2 : sk = 3 * nb + m := by rw [← hsk]; simp only [List.length_append, opR_len, List.length_nil]; omega
 clear hsk
 subst hsk2
 clear hF
 have hly5 := hl3.belowB hby5 hbx
 have hF := hly5
 (repeat unfold Loc at hF)
 generalize hO : _ ++ opR 6 1 = O at hgy5
 have HO := Lib.hid hO
 have hO20 : O.length ≤ 20 := by rw [← hO]; simp only [List.length_append, opR_len, List.length_nil]; omega
 clear hO
 go_wp2_with fail
 go_loopw [73] (fun i wr => ∃ k : Nat, k ≤ nb ∧ i = .int .i64 k ∧ GrS gb O ((List.range k).map (ch1 nb)) wr ∧ Below gb X3 wr) (fun i _ => nb - (intOf i).toNat)
 case atStart => exact ⟨0, Nat.zero_le _, rfl, hgy5, hby5⟩
 case round =>
  obtain ⟨k, hk, rfl, hg, hb⟩ := hrel
  clear hF
  by_cases hlt : k < nb
  ·have hl6 := hl3.belowB hb hbx
   have hF := hl6
   (repeat unfold Loc at hF)
   have d1 : decide ((k : Int) < (nb : Int)) = true := by simp; omega
   have d1' : decide (k < nb) = true := by simp [hlt]
   have ek : IntKind.i64.wrap ((k : Int) + 1) = (k : Int) + 1 := IntWalk.i64_in _ (by omega)
   have e1 : IntKind.i64.wrap ((nb : Int) + (k : Int)) = ((nb + k : Nat) : Int) := (IntWalk.i64_in _ (by omega)).trans (by omega)
   go_wp2_with fail
   go_at_call 65
   refine (gjoin_any gb (qb + 1) O _ k 0 (nb + k : Nat) 0 _ (by simp; omega) (hroom _ hb) hg).mono ?_
   rintro r z1 ⟨⟨_, rfl⟩, hgz1, hcz1⟩
   have hbz1 := hb.trans hcz1
   go_wp2_with fail
   go_roundw
   case rel => exact ⟨k + 1, hlt, by go_num, by rw [map_succ]; exact hgz1, hbz1⟩
   case measure => simp [intOf]; omega
  ·obtain rfl : k = nb := by omega
   have d1 : decide ((k : Int) < (k : Int)) = false := by simp
   have d1' : decide (k < k) = false := by simp
   have hl6 := hl3.belowB hb hbx
   have hF := hl6
   (repeat unfold Loc at hF)
   generalize hC1 : (List.range k).map (ch1 k) = C1 at hg
   have HC1 := Lib.hid hC1
   have hC1l : C1.length = k := by rw [← hC1]; simp
   obtain ⟨wo, rfl⟩ : ∃ x, x = wr := ⟨_, rfl⟩
   have HG1 := Lib.hid hg; have HB1 := Lib.hid hb
   clear hC1 hlt hgy5 hg hb
   go_wp2_with fail
   go_loopw [84] (fun i wr => ∃ j : Nat, j ≤ k ∧ i = .int .i64 j ∧ GrS gb O (C1 ++ (List.range j).flatMap (ch2 k m true sd)) wr ∧ Below gb X3 wr) (fun i _ => k - (intOf i).toNat)
   case atStart => exact ⟨0, Nat.zero_le _, rfl, by simpa using HG1.out, HB1.out⟩
   case round =>
    obtain ⟨j, hj, rfl, hg, hb⟩ := hrel
    clear hF
    have hlm := fm_len (ch2 k m true sd) 2 (ch2_len k m true sd) j
    have hl7 := hl3.belowB hb hbx
    have hF := hl7
    (repeat unfold Loc at hF)
    by_cases hlt : j < k
    ·have d1 : decide ((j : Int) < (k : Int)) = true := by simp; omega
     have d1' : decide (j < k) = true := by simp [hlt]
     have ek : IntKind.i64.wrap ((j : Int) + 1) = (j : Int) + 1 := IntWalk.i64_in _ (by omega)
     have e1 : IntKind.i64.wrap ((k : Int) + (j : Int)) = ((k + j : Nat) : Int) := (IntWalk.i64_in _ (by omega)).trans (by omega)
     have e2 : IntKind.i64.wrap (((2 * k : Nat) : Int) + (j : Int)) = ((2 * k + j : Nat) : Int) := (IntWalk.i64_in _ (by omega)).trans (by omega)
     have e2' : IntKind.i64.wrap ((2 * (k : Int)) + (j : Int)) = ((2 * k + j : Nat) : Int) := (IntWalk.i64_in _ (by omega)).trans (by omega)
     have e3 : IntKind.i64.wrap (((3 * k + m : Nat) : Int) + 1) = ((3 * k + m + 1 : Nat) : Int) := (IntWalk.i64_in _ (by omega)).trans (by omega)
     have e3' : IntKind.i64.wrap (3 * (k : Int) + (m : Int) + 1) = ((3 * k + m + 1 : Nat) : Int) := (IntWalk.i64_in _ (by omega)).trans (by omega)
     have HLT := Lib.hid hlt; have HG2 := Lib.hid hg; have HB2 := Lib.hid hb
     clear hlt hg hb
     go_wp2_with fail
     go_at_call 65
     refine (gjoin_any gb (qb + 1) O _ (k + j : Nat) 0 (2 * k + j : Nat) 0 _ (by rw [List.length_append, hC1l]; omega) (hroom _ HB2.out) HG2.out).mono ?_
     rintro r z1 ⟨⟨_, rfl⟩, hgz1, hcz1⟩
     have hbz1 := HB2.out.trans hcz1
     have hl8 := hl3.belowB hbz1 hbx
     clear hF
     have hF := hl8
     (repeat unfold Loc at hF)
     cases sd
     ·have HGZ := Lib.hid hgz1; have HBZ := Lib.hid hbz1
      clear hgz1 hbz1 hcz1
      go_wp2_with fail
      go_roundw
      case rel => exact ⟨j + 1, HLT.out, by go_num, by have h9 := HGZ.out; rw [flatMap_succ, ← List.append_assoc]; simpa [ch2, splG, fstG] using h9, HBZ.out⟩
      case measure => have := HLT.out; simp [intOf]; omega
     ·have HGZ := Lib.hid hgz1; have HBZ := Lib.hid hbz1
      clear hgz1 hbz1 hcz1
      go_wp2_with fail
      go_at_call 65
      refine (gjoin_any gb (qb + 1) O _ (k + j : Nat) 1 (3 * k + m + 1 : Nat) j _ (by simp only [List.length_append, hC1l, List.length_cons, List.length_nil]; omega) (hroom _ HBZ.out) HGZ.out).mono ?_
      rintro r z2 ⟨⟨_, rfl⟩, hgz2, hcz2⟩
      have HGY := Lib.hid hgz2; have HBY := Lib.hid (HBZ.out.trans hcz2)
      clear hgz2 hcz2
      go_wp2_with fail
      go_roundw
      case rel => exact ⟨j + 1, HLT.out, by go_num, by have h9 := HGY.out; rw [flatMap_succ, ← List.append_assoc]; simpa [ch2, splG, fstG] using h9, HBY.out⟩
      case measure => have := HLT.out; simp [intOf]; omega
    ·obtain rfl : j = k := by omega
     have d1 : decide ((j : Int) < (j : Int)) = false := by simp
     have d1' : decide (j < j) = false := by simp
     generalize hC2 : C1 ++ (List.range j).flatMap (ch2 j m true sd) = C2 at hg
     have HC2 := Lib.hid hC2
     have hC2l : C2.length ≤ 20 := by rw [← hC2, List.length_append, hC1l]; omega
     obtain ⟨wp, rfl⟩ : ∃ x, x = wr := ⟨_, rfl⟩
     have HG2 := Lib.hid hg; have HB2 := Lib.hid hb
     clear hC2 hlt hg hb hlm
     go_wp2_with fail
     go_loopw [119] (fun i wr => ∃ p : Nat, p ≤ j ∧ i = .int .i64 p ∧ GrS gb O (C2 ++ (List.range p).flatMap (ch3 j m true)) wr ∧ Below gb X3 wr) (fun i _ => j - (intOf i).toNat)
     case atStart => exact ⟨0, Nat.zero_le _, rfl, by simpa using HG2.out, HB2.out⟩
     case round =>
      obtain ⟨p, hp, rfl, hg, hb⟩ := hrel
      clear hF
      have hlm := fm_len (ch3 j m true) m (ch3_len j m true) p
      have hl7 := hl3.belowB hb hbx
      have hF := hl7
      (repeat unfold Loc at hF)
      have hpm : p * m ≤ 12 := Nat.le_trans (Nat.mul_le_mul (by omega : p ≤ 4) (by omega : m ≤ 3)) (by omega)
      by_cases hlt : p < j
      ·have d1 : decide ((p : Int) < (j : Int)) = true := by simp; omega
       have d1' : decide (p < j) = true := by simp [hlt]
       have ek : IntKind.i64.wrap ((p : Int) + 1) = (p : Int) + 1 := IntWalk.i64_in _ (by omega)
       generalize hC3 : C2 ++ (List.range p).flatMap (ch3 j m true) = C3 at hg
       have HC3 := Lib.hid hC3
       have hC3l : C3.length ≤ 40 := by rw [← hC3, List.length_append]; omega
       obtain ⟨wq, rfl⟩ : ∃ x, x = wr := ⟨_, rfl⟩
       have HLT := Lib.hid hlt; have HG3 := Lib.hid hg; have HB3 := Lib.hid hb
       clear hC3 hlt hg hb hlm
       go_wp2_with fail
       go_loopw [123] (fun i wr => ∃ u : Nat, u ≤ m ∧ i = .int .i64 u ∧ GrS gb O (C3 ++ (List.range u).map fun (v : Nat) => (⟨(2 * j + p : Nat), v, (3 * j + v : Nat), p, 1⟩ : Chn)) wr ∧ Below gb X3 wr) (fun i _ => m - (intOf i).toNat)
       case atStart => exact ⟨0, Nat.zero_le _, rfl, by simpa using HG3.out, HB3.out⟩
       case round =>
        obtain ⟨u, hu, rfl, hg, hb⟩ := hrel
        clear hF
        have hl7 := hl3.belowB hb hbx
        have hF := hl7
        (repeat unfold Loc at hF)
        by_cases hlt : u < m
        ·have g1 : decide ((u : Int) < (m : Int)) = true := by simp; omega
         have g1' : decide (u < m) = true := by simp [hlt]
         have eu : IntKind.i64.wrap ((u : Int) + 1) = (u : Int) + 1 := IntWalk.i64_in _ (by omega)
         have e2 : IntKind.i64.wrap (((2 * j : Nat) : Int) + (p : Int)) = ((2 * j + p : Nat) : Int) := (IntWalk.i64_in _ (by omega)).trans (by omega)
         have e2' : IntKind.i64.wrap ((2 * (j : Int)) + (p : Int)) = ((2 * j + p : Nat) : Int) := (IntWalk.i64_in _ (by omega)).trans (by omega)
         have e4 : IntKind.i64.wrap (((3 * j : Nat) : Int) + (u : Int)) = ((3 * j + u : Nat) : Int) := (IntWalk.i64_in _ (by omega)).trans (by omega)
         have e4' : IntKind.i64.wrap ((3 * (j : Int)) + (u : Int)) = ((3 * j + u : Nat) : Int) := (IntWalk.i64_in _ (by omega)).trans (by omega)
         have HLU := Lib.hid hlt; have HG4 := Lib.hid hg; have HB4 := Lib.hid hb
         clear hlt hg hb
         go_wp2_with fail
         go_at_call 65
         refine (gjoin_any gb (qb + 1) O _ (2 * j + p : Nat) u (3 * j + u : Nat) p _ (by rw [List.length_append, List.length_map, List.length_range]; omega) (hroom _ HB4.out) HG4.out).mono ?_
         rintro r z1 ⟨⟨_, rfl⟩, hgz1, hcz1⟩
         have HGZ := Lib.hid hgz1; have HBZ := Lib.hid (HB4.out.trans hcz1)
         clear hgz1 hcz1
         go_wp2_with fail
         go_roundw
         case rel => exact ⟨u + 1, HLU.out, by go_num, by rw [map_succ, ← List.append_assoc]; exact HGZ.out, HBZ.out⟩
         case measure => have := HLU.out; simp [intOf]; omega
        ·obtain rfl : u = m := by omega
         have g1 : decide ((u : Int) < (u : Int)) = false := by simp
         have g1' : decide (u < u) = false := by simp
         have HG4 := Lib.hid hg; have HB4 := Lib.hid hb
         clear hlt hg hb
         go_wp2_with fail
         go_roundw
         case rel => exact ⟨p + 1, HLT.out, by go_num, by have h9 := HG4.out; rw [← HC3.out] at h9; rw [flatMap_succ, ← List.append_assoc]; simpa [ch3, splG, fstG] using h9, HB4.out⟩
         case measure => have := HLT.out; simp [intOf]; omega
      ·obtain rfl : p = j := by omega
       have d1 : decide ((p : Int) < (p : Int)) = false := by simp
       have d1' : decide (p < p) = false := by simp
       generalize hC4 : C2 ++ (List.range p).flatMap (ch3 p m true) = C4 at hg
       have HC4 := Lib.hid hC4
       have hC4l : C4.length ≤ 40 := by rw [← hC4, List.length_append]; omega
       obtain ⟨wq, rfl⟩ : ∃ x, x = wr := ⟨_, rfl⟩
       have HG3 := Lib.hid hg; have HB3 := Lib.hid hb
       clear hC4 hlt hg hb hlm
       go_wp2_with fail
       go_loopw [142] (fun i wr => ∃ u : Nat, u ≤ m ∧ i = .int .i64 u ∧ GrS gb O (C4 ++ (List.range u).map (ch4 p m true)) wr ∧ Below gb X3 wr) (fun i _ => m - (intOf i).toNat)
       case atStart => exact ⟨0, Nat.zero_le _, rfl, by simpa using HG3.out, HB3.out⟩
       case round =>
        obtain ⟨u, hu, rfl, hg, hb⟩ := hrel
        clear hF
        have hl7 := hl3.belowB hb hbx
        have hF := hl7
        (repeat unfold Loc at hF)
        by_cases hlt : u < m
        ·have g1 : decide ((u : Int) < (m : Int)) = true := by simp; omega
         have g1' : decide (u < m) = true := by simp [hlt]
         have eu : IntKind.i64.wrap ((u : Int) + 1) = (u : Int) + 1 := IntWalk.i64_in _ (by omega)
         have e4 : IntKind.i64.wrap (((3 * p : Nat) : Int) + (u : Int)) = ((3 * p + u : Nat) : Int) := (IntWalk.i64_in _ (by omega)).trans (by omega)
         have e4' : IntKind.i64.wrap (3 * (p : Int) + (u : Int)) = ((3 * p + u : Nat) : Int) := (IntWalk.i64_in _ (by omega)).trans (by omega)
         have HLU := Lib.hid hlt; have HG4 := Lib.hid hg; have HB4 := Lib.hid hb
         clear hlt hg hb
         go_wp2_with fail
         go_at_call 65
         refine (gjoin_any gb (qb + 1) O _ (3 * p + u : Nat) 0 (3 * p + m : Nat) u _ (by rw [List.length_append, List.length_map, List.length_range]; omega) (hroom _ HB4.out) HG4.out).mono ?_
         rintro r z1 ⟨⟨_, rfl⟩, hgz1, hcz1⟩
         have HGZ := Lib.hid hgz1; have HBZ := Lib.hid (HB4.out.trans hcz1)
         clear hgz1 hcz1
         go_wp2_with fail
         go_roundw
         case rel => exact ⟨u + 1, HLU.out, by go_num, by rw [map_succ, ← List.append_assoc]; exact HGZ.out, HBZ.out⟩
         case measure => have := HLU.out; simp [intOf]; omega
        ·obtain rfl : u = m := by omega
         have g1 : decide ((u : Int) < (u : Int)) = false := by simp
         have g1' : decide (u < u) = false := by simp
         have HG4 := Lib.hid hg; have HB4 := Lib.hid hb
         have hgl := hg
         clear hlt hg
         cases sd
         ·clear hb
          obtain ⟨vo, vc, hlg, owno, ownc⟩ := hgl
          have hl9 := hl3.belowB HB4.out hbx
          clear hF
          have hF := hl9
          (repeat unfold Loc at hF)
          have hG := hlg
          (repeat unfold Loc at hG)
          obtain ⟨Lo, hLo⟩ : ∃ L, List.length (O) = L := ⟨_, rfl⟩
          obtain ⟨Ao, co, rfl, -, -⟩ := own_shape_z owno hLo
          obtain ⟨Lc, hLc⟩ : ∃ L, (C4 ++ (List.range u).map (ch4 p u true)).length = L := ⟨_, rfl⟩
          obtain ⟨Ac, cc', rfl, -, -⟩ := own_shape_z ownc hLc
          have HLO := Lib.hid hLo; have HLC := Lib.hid hLc
          clear hLo hLc
          go_wp2_with fail
          refine bodyPost_ret (v := _) (by rw [results_cell_tmp Tryz.results28]; go_simp; rfl) rfl ?_
          have hO' : O = opsG p (prtG true u) true false false := by rw [← HO.out]; simp [opsG, prtG]
          have hC' : C4 ++ (List.range u).map (ch4 p u true) = chsG p (prtG true u) true false := by rw [← HC4.out, ← HC2.out, ← HC1.out]; simp [chsG, prtG]
          refine ⟨_, rfl, ⟨Ao, Lo, co, Ac, Lc, cc', rfl, by rw [← hO']; exact HLO.out, by rw [← hC']; exact HLC.out, ?_, ?_⟩, ?_⟩
          ·rw [← hO']
           refine Own.rd openc_len (base := gb + 1) (e := 93) (A := Ao) (n := Lo) (c := co) ?_
           (repeat refine own_far_set ?_ (by omega) _)
           exact owno
          ·rw [← hC']
           refine Own.rd chenc_len (base := gb + 1) (e := 139) (A := Ac) (n := Lc) (c := cc') ?_
           (repeat refine own_far_set ?_ (by omega) _)
           exact ownc
          ·have h9 := hb4.trans (Below.mono HB4.out (by rw [HQB.out]; omega))
           rw [HQB.out] at h9
           (repeat refine below_put' ?_ (by omega) _ _)
           exact h9
         ·clear hb
          clear hgl
          go_wp2_with fail
          go_at_call 64
          refine (gadd_any gb _ _ _ 1 _ (by omega) (by omega) HG4.out).mono ?_
          rintro r z1 ⟨rfl, hgl, hcz1⟩
          have HB5 := Lib.hid (HB4.out.trans hcz1)
          obtain ⟨vo, vc, hlg, owno, ownc⟩ := hgl
          have hl9 := hl3.belowB HB5.out hbx
          clear hF
          have hF := hl9
          (repeat unfold Loc at hF)
          have hG := hlg
          (repeat unfold Loc at hG)
          obtain ⟨Lo, hLo⟩ : ∃ L, List.length (O ++ opR 7 1) = L := ⟨_, rfl⟩
          obtain ⟨Ao, co, rfl, -, -⟩ := own_shape_z owno hLo
          obtain ⟨Lc, hLc⟩ : ∃ L, (C4 ++ (List.range u).map (ch4 p u true)).length = L := ⟨_, rfl⟩
          obtain ⟨Ac, cc', rfl, -, -⟩ := own_shape_z ownc hLc
          have HLO := Lib.hid hLo; have HLC := Lib.hid hLc
          clear hLo hLc
          go_wp2_with fail
          refine bodyPost_ret (v := _) (by rw [results_cell_tmp Tryz.results28]; go_simp; rfl) rfl ?_
          have hO' : O ++ opR 7 1 = opsG p (prtG true u) true false true := by rw [← HO.out]; simp [opsG, prtG]
          have hC' : C4 ++ (List.range u).map (ch4 p u true) = chsG p (prtG true u) true true := by rw [← HC4.out, ← HC2.out, ← HC1.out]; simp [chsG, prtG]
          refine ⟨_, rfl, ⟨Ao, Lo, co, Ac, Lc, cc', rfl, by rw [← hO']; exact HLO.out, by rw [← hC']; exact HLC.out, ?_, ?_⟩, ?_⟩
          ·rw [← hO']
           refine Own.rd openc_len (base := gb + 1) (e := 93) (A := Ao) (n := Lo) (c := co) ?_
           (repeat refine own_far_set ?_ (by omega) _)
           exact owno
          ·rw [← hC']
           refine Own.rd chenc_len (base := gb + 1) (e := 139) (A := Ac) (n := Lc) (c := cc') ?_
           (repeat refine own_far_set ?_ (by omega) _)
           exact ownc
          ·have h9 := hb4.trans (Below.mono HB5.out (by rw [HQB.out]; omega))
           rw [HQB.out] at h9
           (repeat refine below_put' ?_ (by omega) _ _)
           exact h9
set_option maxHeartbeats 64000000 in
set_option maxRecDepth 100000 in
theorem graphFT_any (q : Qy) (hq : q.good) (hky : q.ky = false) (hjo : q.jo = true) (m : Nat) (hm : 1 ≤ m ∧ m ≤ 3) (S : Option Addr) (ns cs : Nat) (A B C : Option Addr) (na ca nb cb nc cc : Nat) (w : World) (h : PlRd w q S ns A B C na ca nb cb nc cc) :
  Calls Tryz.prog 28 #[PlanV q S ns cs A B C na ca nb cb nc cc, .int .i64 m, .int .i64 1] w (GraphP q m w) := by
 have HCK := Lib.hid (fun W (hb : Below w.heap.size w W) => pcheck_any q hq S ns cs A B C na ca nb cb nc cc W ⟨h.1, h.2.1.grow hb, h.2.2.grow hb⟩)
 unfold GraphP
 have hnb : q.src.length = nb := h.2.2.2.1.1
 have hn4 : 1 ≤ nb ∧ nb ≤ 4 := by have := hq.src.1; omega
 rw [hnb]
 have hsd : (q.la == 2) = decide (q.la = 2) := rfl
 obtain ⟨sd, hsde⟩ : ∃ sd, decide (q.la = 2) = sd := ⟨_, rfl⟩
 rw [hsde] at hsd ⊢
 obtain ⟨qb, hqb⟩ : ∃ qb, w.heap.size = qb := ⟨_, rfl⟩
 have HQB := Lib.hid hqb
 have hl0 := (((Loc.nil w).new [.slice S ns cs, .int .u8 q.ag, .slice A na ca, .slice B nb cb, .bool q.jo, .slice C nc cc, .int .u8 q.wk, .int .i64 q.ws, .int .i64 q.we, .bool q.ky, .int .u8 q.la] 82).new [.int .i64 1] 3).new [.slice none 0 0, .slice none 0 0] 88
 rw [World.size_alloc, World.size_alloc, hqb] at hl0
 have hb0 : Below w.heap.size w (((w.alloc (.cells #[.slice S ns cs, .int .u8 q.ag, .slice A na ca, .slice B nb cb, .bool q.jo, .slice C nc cc, .int .u8 q.wk, .int .i64 q.ws, .int .i64 q.we, .bool q.ky, .int .u8 q.la] 82)).alloc (.cells #[.int .i64 1] 3)).alloc (.cells #[.slice none 0 0, .slice none 0 0] 88)) := below_new (below_new (below_new (Below.refl _ _) _) _) _
 have hF := hl0
 (repeat unfold Loc at hF)
 have m1 : decide ((m : Int) < 1) = false := by simp; omega
 have m2 : decide (3 < (m : Int)) = false := by simp; omega
 unfold PlanV at HCK ⊢
 clear h hsde hnb hq
 rw [hjo, hky] at hF hl0 hb0 HCK ⊢
 clear hjo hky
 go_enter Tryz.func28, Tryz.ntmps28
 (try simp only [hqb])
 go_wp2_with fail
 go_at_call 63
 refine (HCK.out _ hb0).mono ?_
 rintro r x2 ⟨rfl, hb2⟩
 replace hl0 := hl0.below hb2
 have hb3 := below_then hb0 hb2
 clear hF hb2 hb0
 have hF := hl0
 (repeat unfold Loc at hF)
 go_upto_region 8 with (fail)
 obtain ⟨gb, hgb⟩ : ∃ gb, x2.heap.size = gb := ⟨_, rfl⟩
 have hqg : qb + 3 ≤ gb := by have := hl0.1; omega
 have hg3 : GrS gb [] [] (x2.alloc (.cells #[.slice none 0 0, .slice none 0 0] 88)) := by
  have h1 := (Loc.nil x2).new [.slice none 0 0, .slice none 0 0] 88
  rw [hgb] at h1
  exact ⟨_, _, h1, Own.nil _ _ _, Own.nil _ _ _⟩
 have hl3 := hl0.old (.cells #[.slice none 0 0, .slice none 0 0] 88)
 have hb4 : Below w.heap.size w (x2.alloc (.cells #[.slice none 0 0, .slice none 0 0] 88)) := below_new hb3 _
 (try simp only [hgb])
 generalize hX3 : x2.alloc (.cells #[.slice none 0 0, .slice none 0 0] 88) = X3 at hl3 hg3 hb4 ⊢
 clear hX3 hF hl0 hb3 hgb
 have hbx : ∀ z ∈ ([(qb + 1 + 1, [.slice none 0 0, .slice none 0 0]), (qb + 1, [.int .i64 1]), (qb, [.slice S ns cs, .int .u8 q.ag, .slice A na ca, .slice B nb cb, .bool true, .slice C nc cc, .int .u8 q.wk, .int .i64 q.ws, .int .i64 q.we, .bool false, .int .u8 q.la])] : List (Nat × List Value)), z.1 < gb := by
  intro z hz
  simp only [List.mem_cons, List.not_mem_nil, or_false] at hz
  rcases hz with rfl | rfl | rfl <;> (simp only; omega)
 have hroom : ∀ W, Below gb X3 W → W.cell? ⟨qb + 1, 0, none⟩ = some (.int .i64 1) := fun W hb => by
  have h1 := hl3.belowB hb hbx
  simpa using h1.2.2.2.2.1 0
 have hb3 : Below gb X3 X3 := Below.refl _ _
 have hF := hl3
 (repeat unfold Loc at hF)
 go_wp2_with fail
 go_at_call 64
 refine (gadd_any gb _ _ _ nb _ (by simp only [List.length_nil]; omega) (by omega) hg3).mono ?_
 rintro r y1 ⟨rfl, hgy1, hcy1⟩
 have hby1 := hb3.trans hcy1
 clear hF
 have hly1 := hl3.belowB hby1 hbx
 have hF := hly1
 (repeat unfold Loc at hF)
 go_wp2_with fail
 go_at_call 64
 refine (gadd_any gb _ _ _ nb _ (by (try simp only [List.length_append, opR_len, List.length_nil]); omega) (by omega) hgy1).mono ?_
 rintro r y2 ⟨rfl, hgy2, hcy2⟩
 have hby2 := hby1.trans hcy2
 rw [(by simp only [List.length_append, opR_len, List.length_nil]; omega : (([] : List Opn) ++ opR 1 nb).length = nb)]
 clear hF
 have hly2 := hl3.belowB hby2 hbx
 have hF := hly2
 (repeat unfold Loc at hF)
 go_wp2_with fail
 go_at_call 64
 refine (gadd_any gb _ _ _ 1 _ (by (try simp only [List.length_append, opR_len, List.length_nil]); omega) (by omega) hgy2).mono ?_
 rintro r y4 ⟨rfl, hgy4, hcy4⟩
 have hby4 := hby2.trans hcy4
 rw [(by simp only [List.length_append, opR_len, List.length_nil]; omega : (([] : List Opn) ++ opR 1 nb ++ opR 2 nb).length = 2 * nb)]
 clear hF
 have hly4 := hl3.belowB hby4 hbx
 have hF := hly4
 (repeat unfold Loc at hF)
 go_wp2_with fail
 go_at_call 64
 refine (gadd_any gb _ _ _ 1 _ (by (try simp only [List.length_append, opR_len, List.length_nil]); omega) (by omega) hgy4).mono ?_
 rintro r y5 ⟨rfl, hgy5, hcy5⟩
 have hby5 := hby4.trans hcy5
 generalize hsk : List.length _ = sk
 have hsk2 : sk = 2 * nb + 1 := by rw [← hsk]; simp only [List.length_append, opR_len, List.length_nil]; omega
 clear hsk
 subst hsk2
 clear hF
 have hly5 := hl3.belowB hby5 hbx
 have hF := hly5
 (repeat unfold Loc at hF)
 generalize hO : _ ++ opR 6 1 = O at hgy5
 have HO := Lib.hid hO
 have hO20 : O.length ≤ 20 := by rw [← hO]; simp only [List.length_append, opR_len, List.length_nil]; omega
 clear hO
 go_wp2_with fail
 go_loopw [73] (fun i wr => ∃ k : Nat, k ≤ nb ∧ i = .int .i64 k ∧ GrS gb O ((List.range k).map (ch1 nb)) wr ∧ Below gb X3 wr) (fun i _ => nb - (intOf i).toNat)
 case atStart => exact ⟨0, Nat.zero_le _, rfl, hgy5, hby5⟩
 case round =>
  obtain ⟨k, hk, rfl, hg, hb⟩ := hrel
  clear hF
  by_cases hlt : k < nb
  ·have hl6 := hl3.belowB hb hbx
   have hF := hl6
   (repeat unfold Loc at hF)
   have d1 : decide ((k : Int) < (nb : Int)) = true := by simp; omega
   have d1' : decide (k < nb) = true := by simp [hlt]
   have ek : IntKind.i64.wrap ((k : Int) + 1) = (k : Int) + 1 := IntWalk.i64_in _ (by omega)
   have e1 : IntKind.i64.wrap ((nb : Int) + (k : Int)) = ((nb + k : Nat) : Int) := (IntWalk.i64_in _ (by omega)).trans (by omega)
   go_wp2_with fail
   go_at_call 65
   refine (gjoin_any gb (qb + 1) O _ k 0 (nb + k : Nat) 0 _ (by simp; omega) (hroom _ hb) hg).mono ?_
   rintro r z1 ⟨⟨_, rfl⟩, hgz1, hcz1⟩
   have hbz1 := hb.trans hcz1
   go_wp2_with fail
   go_roundw
   case rel => exact ⟨k + 1, hlt, by go_num, by rw [map_succ]; exact hgz1, hbz1⟩
   case measure => simp [intOf]; omega
  ·obtain rfl : k = nb := by omega
   have d1 : decide ((k : Int) < (k : Int)) = false := by simp
   have d1' : decide (k < k) = false := by simp
   have hl6 := hl3.belowB hb hbx
   have hF := hl6
   (repeat unfold Loc at hF)
   generalize hC1 : (List.range k).map (ch1 k) = C1 at hg
   have HC1 := Lib.hid hC1
   have hC1l : C1.length = k := by rw [← hC1]; simp
   obtain ⟨wo, rfl⟩ : ∃ x, x = wr := ⟨_, rfl⟩
   have HG1 := Lib.hid hg; have HB1 := Lib.hid hb
   clear hC1 hlt hgy5 hg hb
   go_wp2_with fail
   go_loopw [84] (fun i wr => ∃ j : Nat, j ≤ k ∧ i = .int .i64 j ∧ GrS gb O (C1 ++ (List.range j).flatMap (ch2 k 1 false sd)) wr ∧ Below gb X3 wr) (fun i _ => k - (intOf i).toNat)
   case atStart => exact ⟨0, Nat.zero_le _, rfl, by simpa using HG1.out, HB1.out⟩
   case round =>
    obtain ⟨j, hj, rfl, hg, hb⟩ := hrel
    clear hF
    have hlm := fm_len (ch2 k 1 false sd) 2 (ch2_len k 1 false sd) j
    have hl7 := hl3.belowB hb hbx
    have hF := hl7
    (repeat unfold Loc at hF)
    by_cases hlt : j < k
    ·have d1 : decide ((j : Int) < (k : Int)) = true := by simp; omega
     have d1' : decide (j < k) = true := by simp [hlt]
     have ek : IntKind.i64.wrap ((j : Int) + 1) = (j : Int) + 1 := IntWalk.i64_in _ (by omega)
     have e1 : IntKind.i64.wrap ((k : Int) + (j : Int)) = ((k + j : Nat) : Int) := (IntWalk.i64_in _ (by omega)).trans (by omega)
     have e3 : IntKind.i64.wrap (((2 * k + 1 : Nat) : Int) + 1) = ((2 * k + 1 + 1 : Nat) : Int) := (IntWalk.i64_in _ (by omega)).trans (by omega)
     have e3' : IntKind.i64.wrap (2 * (k : Int) + 1 + 1) = ((2 * k + 1 + 1 : Nat) : Int) := (IntWalk.i64_in _ (by omega)).trans (by omega)
     have HLT := Lib.hid hlt; have HG2 := Lib.hid hg; have HB2 := Lib.hid hb
     clear hlt hg hb
     go_wp2_with fail
     go_at_call 65
     refine (gjoin_any gb (qb + 1) O _ (k + j : Nat) 0 (2 * k : Nat) j _ (by rw [List.length_append, hC1l]; omega) (hroom _ HB2.out) HG2.out).mono ?_
     rintro r z1 ⟨⟨_, rfl⟩, hgz1, hcz1⟩
     have hbz1 := HB2.out.trans hcz1
     have hl8 := hl3.belowB hbz1 hbx
     clear hF
     have hF := hl8
     (repeat unfold Loc at hF)
     cases sd
     ·have HGZ := Lib.hid hgz1; have HBZ := Lib.hid hbz1
      clear hgz1 hbz1 hcz1
      go_wp2_with fail
      go_roundw
      case rel => exact ⟨j + 1, HLT.out, by go_num, by have h9 := HGZ.out; rw [flatMap_succ, ← List.append_assoc]; simpa [ch2, splG, fstG] using h9, HBZ.out⟩
      case measure => have := HLT.out; simp [intOf]; omega
     ·have HGZ := Lib.hid hgz1; have HBZ := Lib.hid hbz1
      clear hgz1 hbz1 hcz1
      go_wp2_with fail
      go_at_call 65
      refine (gjoin_any gb (qb + 1) O _ (k + j : Nat) 1 (2 * k + 1 + 1 : Nat) j _ (by simp only [List.length_append, hC1l, List.length_cons, List.length_nil]; omega) (hroom _ HBZ.out) HGZ.out).mono ?_
      rintro r z2 ⟨⟨_, rfl⟩, hgz2, hcz2⟩
      have HGY := Lib.hid hgz2; have HBY := Lib.hid (HBZ.out.trans hcz2)
      clear hgz2 hcz2
      go_wp2_with fail
      go_roundw
      case rel => exact ⟨j + 1, HLT.out, by go_num, by have h9 := HGY.out; rw [flatMap_succ, ← List.append_assoc]; simpa [ch2, splG, fstG] using h9, HBY.out⟩
      case measure => have := HLT.out; simp [intOf]; omega
    ·obtain rfl : j = k := by omega
     have d1 : decide ((j : Int) < (j : Int)) = false := by simp
     have d1' : decide (j < j) = false := by simp
     generalize hC2 : C1 ++ (List.range j).flatMap (ch2 j 1 false sd) = C2 at hg
     have HC2 := Lib.hid hC2
     have hC2l : C2.length ≤ 20 := by rw [← hC2, List.length_append, hC1l]; omega
     obtain ⟨wp, rfl⟩ : ∃ x, x = wr := ⟨_, rfl⟩
     have HG2 := Lib.hid hg; have HB2 := Lib.hid hb
     clear hC2 hlt hg hb hlm
     go_wp2_with fail
     go_loopw [119] (fun i wr => ∃ p : Nat, p ≤ j ∧ i = .int .i64 p ∧ GrS gb O (C2 ++ (List.range p).flatMap (ch3 j 1 false)) wr ∧ Below gb X3 wr) (fun i _ => j - (intOf i).toNat)
     case atStart => exact ⟨0, Nat.zero_le _, rfl, by simpa using HG2.out, HB2.out⟩
     case round =>
      obtain ⟨p, hp, rfl, hg, hb⟩ := hrel
      clear hF
      have hlm := fm_len (ch3 j 1 false) 1 (ch3_len j 1 false) p
      have hl7 := hl3.belowB hb hbx
      have hF := hl7
      (repeat unfold Loc at hF)
      have hpm : p * 1 ≤ 12 := Nat.le_trans (Nat.mul_le_mul (by omega : p ≤ 4) (by omega : 1 ≤ 3)) (by omega)
      by_cases hlt : p < j
      ·have d1 : decide ((p : Int) < (j : Int)) = true := by simp; omega
       have d1' : decide (p < j) = true := by simp [hlt]
       have ek : IntKind.i64.wrap ((p : Int) + 1) = (p : Int) + 1 := IntWalk.i64_in _ (by omega)
       generalize hC3 : C2 ++ (List.range p).flatMap (ch3 j 1 false) = C3 at hg
       have HC3 := Lib.hid hC3
       have hC3l : C3.length ≤ 40 := by rw [← hC3, List.length_append]; omega
       obtain ⟨wq, rfl⟩ : ∃ x, x = wr := ⟨_, rfl⟩
       have HLT := Lib.hid hlt; have HG3 := Lib.hid hg; have HB3 := Lib.hid hb
       clear hC3 hlt hg hb hlm
       go_wp2_with fail
       go_loopw [123] (fun i wr => ∃ u : Nat, u ≤ 1 ∧ i = .int .i64 u ∧ GrS gb O C3 wr ∧ Below gb X3 wr) (fun i _ => 1 - (intOf i).toNat)
       case atStart => exact ⟨0, Nat.zero_le _, rfl, HG3.out, HB3.out⟩
       case round =>
        obtain ⟨u, hu, rfl, hg, hb⟩ := hrel
        clear hF
        have hl7 := hl3.belowB hb hbx
        have hF := hl7
        (repeat unfold Loc at hF)
        have HG4 := Lib.hid hg; have HB4 := Lib.hid hb
        clear hg hb
        by_cases hlt : u < 1
        ·have g1 : decide ((u : Int) < (1 : Int)) = true := by simp; omega
         have g1' : decide (u < 1) = true := by simp [hlt]
         have eu : IntKind.i64.wrap ((u : Int) + 1) = (u : Int) + 1 := IntWalk.i64_in _ (by omega)
         have HLU := Lib.hid hlt
         clear hlt
         go_wp2_with fail
         go_roundw
         case rel => exact ⟨u + 1, HLU.out, by go_num, HG4.out, HB4.out⟩
         case measure => have := HLU.out; simp [intOf]; omega
        ·obtain rfl : u = 1 := by omega
         have g1 : decide (((1 : Nat) : Int) < (1 : Int)) = false := by simp
         clear hlt
         go_wp2_with fail
         go_roundw
         case rel => exact ⟨p + 1, HLT.out, by go_num, by have h9 := HG4.out; rw [← HC3.out] at h9; rw [flatMap_succ, ← List.append_assoc]; simpa [ch3] using h9, HB4.out⟩
         case measure => have := HLT.out; simp [intOf]; omega
      ·obtain rfl : p = j := by omega
       have d1 : decide ((p : Int) < (p : Int)) = false := by simp
       have d1' : decide (p < p) = false := by simp
       generalize hC4 : C2 ++ (List.range p).flatMap (ch3 p 1 false) = C4 at hg
       have HC4 := Lib.hid hC4
       have hC4l : C4.length ≤ 40 := by rw [← hC4, List.length_append]; omega
       obtain ⟨wq, rfl⟩ : ∃ x, x = wr := ⟨_, rfl⟩
       have HG3 := Lib.hid hg; have HB3 := Lib.hid hb
       clear hC4 hlt hg hb hlm
       go_wp2_with fail
       go_loopw [142] (fun i wr => ∃ u : Nat, u ≤ 1 ∧ i = .int .i64 u ∧ GrS gb O (C4 ++ (List.range u).map (ch4 p 1 false)) wr ∧ Below gb X3 wr) (fun i _ => 1 - (intOf i).toNat)
       case atStart => exact ⟨0, Nat.zero_le _, rfl, by simpa using HG3.out, HB3.out⟩
       case round =>
        obtain ⟨u, hu, rfl, hg, hb⟩ := hrel
        clear hF
        have hl7 := hl3.belowB hb hbx
        have hF := hl7
        (repeat unfold Loc at hF)
        by_cases hlt : u < 1
        ·have g1 : decide ((u : Int) < (1 : Int)) = true := by simp; omega
         have g1' : decide (u < 1) = true := by simp [hlt]
         have eu : IntKind.i64.wrap ((u : Int) + 1) = (u : Int) + 1 := IntWalk.i64_in _ (by omega)
         have e4 : IntKind.i64.wrap (((2 * p : Nat) : Int) + (u : Int)) = ((2 * p + u : Nat) : Int) := (IntWalk.i64_in _ (by omega)).trans (by omega)
         have e4' : IntKind.i64.wrap (2 * (p : Int) + (u : Int)) = ((2 * p + u : Nat) : Int) := (IntWalk.i64_in _ (by omega)).trans (by omega)
         have HLU := Lib.hid hlt; have HG4 := Lib.hid hg; have HB4 := Lib.hid hb
         clear hlt hg hb
         go_wp2_with fail
         go_at_call 65
         refine (gjoin_any gb (qb + 1) O _ (2 * p + u : Nat) 0 (2 * p + 1 : Nat) u _ (by rw [List.length_append, List.length_map, List.length_range]; omega) (hroom _ HB4.out) HG4.out).mono ?_
         rintro r z1 ⟨⟨_, rfl⟩, hgz1, hcz1⟩
         have HGZ := Lib.hid hgz1; have HBZ := Lib.hid (HB4.out.trans hcz1)
         clear hgz1 hcz1
         go_wp2_with fail
         go_roundw
         case rel => exact ⟨u + 1, HLU.out, by go_num, by rw [map_succ, ← List.append_assoc]; exact HGZ.out, HBZ.out⟩
         case measure => have := HLU.out; simp [intOf]; omega
        ·obtain rfl : u = 1 := by omega
         have g1 : decide (((1 : Nat) : Int) < (1 : Int)) = false := by simp
         have HG4 := Lib.hid hg; have HB4 := Lib.hid hb
         have hgl := hg
         clear hlt hg
         cases sd
         ·clear hb
          obtain ⟨vo, vc, hlg, owno, ownc⟩ := hgl
          have hl9 := hl3.belowB HB4.out hbx
          clear hF
          have hF := hl9
          (repeat unfold Loc at hF)
          have hG := hlg
          (repeat unfold Loc at hG)
          obtain ⟨Lo, hLo⟩ : ∃ L, List.length (O) = L := ⟨_, rfl⟩
          obtain ⟨Ao, co, rfl, -, -⟩ := own_shape_z owno hLo
          obtain ⟨Lc, hLc⟩ : ∃ L, (C4 ++ (List.range 1).map (ch4 p 1 false)).length = L := ⟨_, rfl⟩
          obtain ⟨Ac, cc', rfl, -, -⟩ := own_shape_z ownc hLc
          have HLO := Lib.hid hLo; have HLC := Lib.hid hLc
          clear hLo hLc
          go_wp2_with fail
          refine bodyPost_ret (v := _) (by rw [results_cell_tmp Tryz.results28]; go_simp; rfl) rfl ?_
          have hO' : O = opsG p (prtG false m) false true false := by rw [← HO.out]; simp [opsG, prtG]
          have hC' : C4 ++ (List.range 1).map (ch4 p 1 false) = chsG p (prtG false m) false false := by rw [← HC4.out, ← HC2.out, ← HC1.out]; simp [chsG, prtG]
          refine ⟨_, rfl, ⟨Ao, Lo, co, Ac, Lc, cc', rfl, by rw [← hO']; exact HLO.out, by rw [← hC']; exact HLC.out, ?_, ?_⟩, ?_⟩
          ·rw [← hO']
           refine Own.rd openc_len (base := gb + 1) (e := 93) (A := Ao) (n := Lo) (c := co) ?_
           (repeat refine own_far_set ?_ (by omega) _)
           exact owno
          ·rw [← hC']
           refine Own.rd chenc_len (base := gb + 1) (e := 139) (A := Ac) (n := Lc) (c := cc') ?_
           (repeat refine own_far_set ?_ (by omega) _)
           exact ownc
          ·have h9 := hb4.trans (Below.mono HB4.out (by rw [HQB.out]; omega))
           rw [HQB.out] at h9
           (repeat refine below_put' ?_ (by omega) _ _)
           exact h9
         ·clear hb
          clear hgl
          go_wp2_with fail
          go_at_call 64
          refine (gadd_any gb _ _ _ 1 _ (by omega) (by omega) HG4.out).mono ?_
          rintro r z1 ⟨rfl, hgl, hcz1⟩
          have HB5 := Lib.hid (HB4.out.trans hcz1)
          obtain ⟨vo, vc, hlg, owno, ownc⟩ := hgl
          have hl9 := hl3.belowB HB5.out hbx
          clear hF
          have hF := hl9
          (repeat unfold Loc at hF)
          have hG := hlg
          (repeat unfold Loc at hG)
          obtain ⟨Lo, hLo⟩ : ∃ L, List.length (O ++ opR 7 1) = L := ⟨_, rfl⟩
          obtain ⟨Ao, co, rfl, -, -⟩ := own_shape_z owno hLo
          obtain ⟨Lc, hLc⟩ : ∃ L, (C4 ++ (List.range 1).map (ch4 p 1 false)).length = L := ⟨_, rfl⟩
          obtain ⟨Ac, cc', rfl, -, -⟩ := own_shape_z ownc hLc
          have HLO := Lib.hid hLo; have HLC := Lib.hid hLc
          clear hLo hLc
          go_wp2_with fail
          refine bodyPost_ret (v := _) (by rw [results_cell_tmp Tryz.results28]; go_simp; rfl) rfl ?_
          have hO' : O ++ opR 7 1 = opsG p (prtG false m) false true true := by rw [← HO.out]; simp [opsG, prtG]
          have hC' : C4 ++ (List.range 1).map (ch4 p 1 false) = chsG p (prtG false m) false true := by rw [← HC4.out, ← HC2.out, ← HC1.out]; simp [chsG, prtG]
          refine ⟨_, rfl, ⟨Ao, Lo, co, Ac, Lc, cc', rfl, by rw [← hO']; exact HLO.out, by rw [← hC']; exact HLC.out, ?_, ?_⟩, ?_⟩
          ·rw [← hO']
           refine Own.rd openc_len (base := gb + 1) (e := 93) (A := Ao) (n := Lo) (c := co) ?_
           (repeat refine own_far_set ?_ (by omega) _)
           exact owno
          ·rw [← hC']
           refine Own.rd chenc_len (base := gb + 1) (e := 139) (A := Ac) (n := Lc) (c := cc') ?_
           (repeat refine own_far_set ?_ (by omega) _)
           exact ownc
          ·have h9 := hb4.trans (Below.mono HB5.out (by rw [HQB.out]; omega))
           rw [HQB.out] at h9
           (repeat refine below_put' ?_ (by omega) _ _)
           exact h9
end Go.Proofs.YtnljihjhmgpcoaaGreat
