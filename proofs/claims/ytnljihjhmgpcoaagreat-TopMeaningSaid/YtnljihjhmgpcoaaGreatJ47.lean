/- Lemmas and contracts for the statement, joined into one text: RefQy. The conditions of each stand at its head. -/
import Derived.Test.YtnljihjhmgpcoaaGreatJ34
import Derived.Test.YtnljihjhmgpcoaaGreatJ42
import Derived.Test.YtnljihjhmgpcoaaGreatJ1
import Derived.Test.YtnljihjhmgpcoaaGreatJ35
import Derived.BigQuiet
namespace Go.Proofs.YtnljihjhmgpcoaaGreat
open Go.RowKit Go.ChangeShapes Go.WideShapes Go.ChangeAt Go.Deep
theorem i_cell {w : World} {B : Nat} {A : Option Addr} {l : List Int} (h : Rd ienc 1 w B A l) {k : Nat} {x : Int} (hx : l[k]? = some x) :
  ∃ b off, A = some ⟨b, off, none⟩ ∧ b < B ∧ w.cell? ⟨b, off + k, none⟩ = some (.int .i64 x) := by
 obtain ⟨b, off, e, hb, hc⟩ := h.at_ hx
 exact ⟨b, off, e, hb, by simpa using hc 0 _ rfl⟩
theorem any_step {α : Type} {p : α → Bool} {l : List α} {k : Nat} {x : α} (h : (l.take k).any p = false) (hx : l[k]? = some x) (hp : p x = false) : (l.take (k + 1)).any p = false := by
 rw [List.take_add_one, hx, Option.toList, List.any_append, h]; simp [hp]
theorem any_at {α : Type} {p : α → Bool} {l : List α} {k : Nat} {x : α} (hx : l[k]? = some x) (hp : p x = true) : l.any p = true := List.any_eq_true.2 ⟨x, List.mem_of_getElem? hx, hp⟩
def dupAt (l : List Int) (i : Nat) : Bool := (l.take i).any fun y => y == l.getD i 0
theorem dup_no {l : List Int} (h : ∀ i, i < l.length → dupAt l i = false) : dupB l = false := by
 unfold dupB
 rw [List.any_eq_false]
 intro i hi
 have := h i (List.mem_range.1 hi)
 rw [Bool.not_eq_true]
 exact this
theorem dup_yes {l : List Int} {i : Nat} (hi : i < l.length) (h : dupAt l i = true) : dupB l = true := by
 unfold dupB
 exact List.any_eq_true.2 ⟨i, List.mem_range.2 hi, h⟩
set_option maxHeartbeats 8000000 in
theorem rsrc_any (l : List Int) (jo : Bool) (A : Option Addr) (c n : Nat) (w : World) (hn : l.length = n) (hr : Rd ienc 1 w w.heap.size A l) :
  Calls Tryz.prog 81 #[.slice A n c, .bool jo] w fun r w' => r = .returned (.int .i64 (srcB l jo)) ∧ Below w.heap.size w w' := by
 obtain ⟨R, hR⟩ : ∃ R, srcB l jo = R := ⟨_, rfl⟩
 rw [hR]
 have HR := Lib.hid hR
 have HN := Lib.hid hn
 unfold srcB at hR
 rw [hn] at hR
 clear hn
 by_cases h4 : 4 < n
 ·rw [if_pos h4] at hR
  subst hR
  have d0 : decide (4 < n) = true := by simp [h4]
  have d0' : decide ((4 : Int) < (n : Int)) = true := by simp; omega
  clear h4
  go_enter Tryz.func81, Tryz.ntmps81
  go_wp2_with fail
  go_ret
  exact ⟨rfl, Below.refl _ _⟩
 rw [if_neg h4] at hR
 have d0 : decide (4 < n) = false := by simp; omega
 have d0' : decide ((4 : Int) < (n : Int)) = false := by simp; omega
 by_cases h0 : n = 0
 ·subst h0
  rw [if_pos (.inl rfl)] at hR
  subst hR
  go_enter Tryz.func81, Tryz.ntmps81
  go_wp2_with fail
  go_ret
  exact ⟨rfl, Below.refl _ _⟩
 have d1 : (n == 0) = false := by simp [h0]
 have d1' : ((n : Int) == 0) = false := by simp; omega
 by_cases h2 : jo = true ∧ n ≠ 2
 ·rw [if_pos (.inr h2)] at hR
  subst hR
  obtain ⟨rfl, h2⟩ := h2
  have d2 : (n != 2) = true := by simp [h2]
  have d2' : ((n : Int) != 2) = true := by simp; omega
  clear h0 h4 h2
  go_enter Tryz.func81, Tryz.ntmps81
  go_wp2_with fail
  go_ret
  exact ⟨rfl, Below.refl _ _⟩
 rw [if_neg (by rintro (h | h); exact h0 h; exact h2 h)] at hR
 have hj : jo = false ∨ (jo = true ∧ n = 2) := by
  cases jo with
  | false => exact .inl rfl
  | true => exact .inr ⟨rfl, by rcases Nat.decEq n 2 with h | h; exact absurd ⟨rfl, h⟩ h2; exact h⟩
 have H4 := Lib.hid h4
 have hin : (l.any fun x => decide (x < 0 ∨ 3 < x)) = true → R = 8 := fun h => by rw [if_pos h] at hR; exact hR.symm
 have hind : (l.any fun x => decide (x < 0 ∨ 3 < x)) = false → dupB l = true → R = 43 := fun h h1 => by rw [if_neg (by rw [h]; simp), if_pos h1] at hR; exact hR.symm
 have hz : (l.any fun x => decide (x < 0 ∨ 3 < x)) = false → dupB l = false → R = 0 := fun h h1 => by rw [if_neg (by rw [h]; simp), if_neg (by rw [h1]; simp)] at hR; exact hR.symm
 have HIN := Lib.hid hin; have HIND := Lib.hid hind; have HZ := Lib.hid hz
 clear hin hind hz hR HR h2 h4
 suffices hmain : ∀ W, W = w → Calls Tryz.prog 81 #[.slice A n c, .bool jo] W fun r w' => r = .returned (.int .i64 R) ∧ Below w.heap.size w w' from hmain w rfl
 intro W hW
 subst hW
 rcases hj with rfl | ⟨rfl, rfl⟩
 ·go_enter Tryz.func81, Tryz.ntmps81
  go_wp2_with fail
  go_loopw [5] (fun i wr => ∃ k : Nat, k ≤ n ∧ i = .int .i64 k ∧ ((l.take k).any fun x => decide (x < 0 ∨ 3 < x)) = false ∧ W = wr) (fun i _ => n - (intOf i).toNat)
  case atStart => exact ⟨0, Nat.zero_le _, rfl, by simp, rfl⟩
  case round =>
   obtain ⟨k, hk, rfl, hall, rfl⟩ := hrel
   have kq : k ≤ 4 := by have := H4.out; omega
   by_cases hlt : k < n
   ·obtain ⟨x, hx⟩ : ∃ x, l[k]? = some x := ⟨_, List.getElem?_eq_getElem (by rw [HN.out]; exact hlt)⟩
    obtain ⟨b, off, rfl, hbb, f0⟩ := i_cell hr hx
    have g1 : decide ((k : Int) < (n : Int)) = true := by simp; omega
    have g1' : decide (k < n) = true := by simp [hlt]
    have k1 : (0 : Int) ≤ (k : Int) := by omega
    have k2 : (k : Int) < (n : Int) := by omega
    have e1 : IntKind.i64.wrap ((k : Int) + 1) = (k : Int) + 1 := IntWalk.i64_in _ (by omega)
    have HST := Lib.hid (any_step (p := fun x => decide (x < 0 ∨ 3 < x)) hall hx)
    have HAT := Lib.hid (any_at (p := fun x => decide (x < 0 ∨ 3 < x)) hx)
    have HL := Lib.hid hlt
    clear hx hlt hall
    by_cases q1 : x < 0
    ·have r1 : decide (x < 0) = true := by simp [q1]
     have HQ := Lib.hid (HAT.out (by simp [q1]))
     clear q1
     go_wp2_with fail
     go_ret
     exact ⟨ret_i64 (HIN.out HQ.out).symm, Below.refl _ _⟩
    ·have r1 : decide (x < 0) = false := by simp; omega
     by_cases q2 : 3 < x
     ·have r2 : decide (3 < x) = true := by simp [q2]
      have HQ := Lib.hid (HAT.out (by simp [q2]))
      clear q1 q2
      go_wp2_with fail
      go_ret
      exact ⟨ret_i64 (HIN.out HQ.out).symm, Below.refl _ _⟩
     ·have r2 : decide (3 < x) = false := by simp; omega
      have HQ := Lib.hid (HST.out (by simp; omega))
      clear q1 q2
      go_wp2_with fail
      go_roundw
      case rel => exact ⟨k + 1, HL.out, by go_num, HQ.out, trivial⟩
      case measure => have := HL.out; simp [intOf]; omega
   ·obtain rfl : n = k := by omega
    have g1 : decide ((n : Int) < (n : Int)) = false := by simp
    have g1' : decide (n < n) = false := by simp
    rw [List.take_of_length_le (by rw [HN.out]; exact Nat.le_refl _)] at hall
    have HALL := Lib.hid hall
    clear hall
    go_wp2_with fail
    go_loopw [6, 7] (fun i _ wr => ∃ k : Nat, k ≤ n ∧ i = .int .i64 k ∧ (∀ j, j < k → dupAt l j = false) ∧ ∃ q, wr = W.drewN q) (fun i _ _ => n - (intOf i).toNat)
    case atStart => exact ⟨0, Nat.zero_le _, rfl, by intro j hj; omega, 0, rfl⟩
    case round =>
     obtain ⟨i, hi, rfl, hno, q, rfl⟩ := hrel
     obtain ⟨wq, hwq⟩ : ∃ wq, wq = W.drewN q := ⟨_, rfl⟩
     have hrq : Rd ienc 1 wq wq.heap.size A l := by rw [hwq]; exact hr
     have hbq : Below W.heap.size W wq := by rw [hwq]; exact below_drewN (Below.refl _ _) _
     rw [← hwq]
     have HWQ := Lib.hid hwq
     have HBQ := Lib.hid hbq
     clear hwq hbq
     have iq : i ≤ 4 := by have := H4.out; omega
     by_cases hlt : i < n
     ·obtain ⟨y, hy⟩ : ∃ y, l[i]? = some y := ⟨_, List.getElem?_eq_getElem (by rw [HN.out]; exact hlt)⟩
      have g2 : decide ((i : Int) < (n : Int)) = true := by simp; omega
      have g2' : decide (i < n) = true := by simp [hlt]
      have i1 : (0 : Int) ≤ (i : Int) := by omega
      have i2 : (i : Int) < (n : Int) := by omega
      have e2 : IntKind.i64.wrap ((i : Int) + 1) = (i : Int) + 1 := IntWalk.i64_in _ (by omega)
      have hgd : l.getD i 0 = y := by rw [List.getD_eq_getElem?_getD, hy]; rfl
      have HGD := Lib.hid hgd; have HNO := Lib.hid hno; have HL := Lib.hid hlt; have HY := Lib.hid hy
      clear hgd hno hlt hy
      go_wp2_with fail
      go_loopw [7] (fun j wr => ∃ k : Nat, k ≤ i ∧ j = .int .i64 k ∧ ((l.take k).any fun x => x == y) = false ∧ ∃ q, wr = wq.drewN q) (fun j _ => i - (intOf j).toNat)
      case atStart => exact ⟨0, Nat.zero_le _, rfl, by simp, 0, rfl⟩
      case round =>
       obtain ⟨k, hk, rfl, hall, q2, rfl⟩ := hrel
       by_cases hki : k < i
       ·obtain ⟨x, hx⟩ : ∃ x, l[k]? = some x := ⟨_, List.getElem?_eq_getElem (by rw [HN.out]; have := HL.out; omega)⟩
        obtain ⟨b, off, rfl, hbb, f0⟩ := i_cell hrq hx
        obtain ⟨b', off', ea, hbb', f1⟩ := i_cell hrq HY.out
        simp only [Option.some.injEq, Addr.mk.injEq, and_true] at ea
        obtain ⟨rfl, rfl⟩ := ea
        have g3 : decide ((k : Int) < (i : Int)) = true := by simp; omega
        have g3' : decide (k < i) = true := by simp [hki]
        have k1 : (0 : Int) ≤ (k : Int) := by omega
        have k2 : (k : Int) < (n : Int) := by have := HL.out; omega
        have e1 : IntKind.i64.wrap ((k : Int) + 1) = (k : Int) + 1 := IntWalk.i64_in _ (by omega)
        have HST := Lib.hid (any_step (p := fun x => x == y) hall hx)
        have HAT := Lib.hid (any_at (l := l.take i) (p := fun x => x == y) (by rw [List.getElem?_take, if_pos hki]; exact hx))
        have HK := Lib.hid hki
        clear hx hall hki
        obtain ⟨T, hT⟩ : ∃ T, (x == y) = T := ⟨_, rfl⟩
        cases T with
        | true =>
         have HQ := Lib.hid (HAT.out hT)
         go_wp2_with fail
         go_quiet (fail)
         go_wp2_with fail
         go_ret
         exact ⟨ret_i64 (HIND.out HALL.out (dup_yes (i := i) (by rw [HN.out]; exact HL.out) (by unfold dupAt; rw [HGD.out]; exact HQ.out))).symm, below_drewN' (below_drewN' HBQ.out _) _⟩
        | false =>
         have HQ := Lib.hid (HST.out hT)
         go_wp2_with fail
         go_quiet (fail)
         go_wp2_with fail
         go_roundw
         case rel => exact ⟨k + 1, HK.out, by go_num, HQ.out, _, rfl⟩
         case measure => have := HK.out; simp [intOf]; omega
       ·obtain rfl : k = i := by omega
        have g3 : decide ((k : Int) < (k : Int)) = false := by simp
        have g3' : decide (k < k) = false := by simp
        have HALL2 := Lib.hid hall
        clear hall
        go_wp2_with fail
        go_roundw
        case rel => exact ⟨k + 1, HL.out, by go_num, (by intro j hj; rcases Nat.lt_succ_iff_lt_or_eq.1 hj with h | rfl; exact HNO.out j h; unfold dupAt; rw [HGD.out]; exact HALL2.out), _, by rw [HWQ.out]; exact World.drewN_drewN _ _ _⟩
        case measure => have := HL.out; simp [intOf]; omega
     ·obtain rfl : n = i := by omega
      have g2 : decide ((n : Int) < (n : Int)) = false := by simp
      have g2' : decide (n < n) = false := by simp
      have HNO := Lib.hid hno
      clear hno
      go_wp2_with fail
      go_ret
      exact ⟨ret_i64 (HZ.out HALL.out (dup_no (by rw [HN.out]; exact HNO.out))).symm, HBQ.out⟩
 ·go_enter Tryz.func81, Tryz.ntmps81
  go_wp2_with fail
  go_loopw [5] (fun i wr => ∃ k : Nat, k ≤ 2 ∧ i = .int .i64 k ∧ ((l.take k).any fun x => decide (x < 0 ∨ 3 < x)) = false ∧ W = wr) (fun i _ => 2 - (intOf i).toNat)
  case atStart => exact ⟨0, Nat.zero_le _, rfl, by simp, rfl⟩
  case round =>
   obtain ⟨k, hk, rfl, hall, rfl⟩ := hrel
   have kq : k ≤ 4 := by have := H4.out; omega
   by_cases hlt : k < 2
   ·obtain ⟨x, hx⟩ : ∃ x, l[k]? = some x := ⟨_, List.getElem?_eq_getElem (by rw [HN.out]; exact hlt)⟩
    obtain ⟨b, off, rfl, hbb, f0⟩ := i_cell hr hx
    have g1 : decide ((k : Int) < ((2 : Nat) : Int)) = true := by simp; omega
    have g1' : decide (k < 2) = true := by simp [hlt]
    have k1 : (0 : Int) ≤ (k : Int) := by omega
    have k2 : (k : Int) < ((2 : Nat) : Int) := by omega
    have e1 : IntKind.i64.wrap ((k : Int) + 1) = (k : Int) + 1 := IntWalk.i64_in _ (by omega)
    have HST := Lib.hid (any_step (p := fun x => decide (x < 0 ∨ 3 < x)) hall hx)
    have HAT := Lib.hid (any_at (p := fun x => decide (x < 0 ∨ 3 < x)) hx)
    have HL := Lib.hid hlt
    clear hx hlt hall
    by_cases q1 : x < 0
    ·have r1 : decide (x < 0) = true := by simp [q1]
     have HQ := Lib.hid (HAT.out (by simp [q1]))
     clear q1
     go_wp2_with fail
     go_ret
     exact ⟨ret_i64 (HIN.out HQ.out).symm, Below.refl _ _⟩
    ·have r1 : decide (x < 0) = false := by simp; omega
     by_cases q2 : 3 < x
     ·have r2 : decide (3 < x) = true := by simp [q2]
      have HQ := Lib.hid (HAT.out (by simp [q2]))
      clear q1 q2
      go_wp2_with fail
      go_ret
      exact ⟨ret_i64 (HIN.out HQ.out).symm, Below.refl _ _⟩
     ·have r2 : decide (3 < x) = false := by simp; omega
      have HQ := Lib.hid (HST.out (by simp; omega))
      clear q1 q2
      go_wp2_with fail
      go_roundw
      case rel => exact ⟨k + 1, HL.out, by go_num, HQ.out, trivial⟩
      case measure => have := HL.out; simp [intOf]; omega
   ·obtain rfl : 2 = k := by omega
    have g1 : decide (((2 : Nat) : Int) < ((2 : Nat) : Int)) = false := by simp
    have g1' : decide (2 < 2) = false := by simp
    rw [List.take_of_length_le (by rw [HN.out]; exact Nat.le_refl _)] at hall
    have HALL := Lib.hid hall
    clear hall
    go_wp2_with fail
    go_loopw [6, 7] (fun i _ wr => ∃ k : Nat, k ≤ 2 ∧ i = .int .i64 k ∧ (∀ j, j < k → dupAt l j = false) ∧ ∃ q, wr = W.drewN q) (fun i _ _ => 2 - (intOf i).toNat)
    case atStart => exact ⟨0, Nat.zero_le _, rfl, by intro j hj; omega, 0, rfl⟩
    case round =>
     obtain ⟨i, hi, rfl, hno, q, rfl⟩ := hrel
     obtain ⟨wq, hwq⟩ : ∃ wq, wq = W.drewN q := ⟨_, rfl⟩
     have hrq : Rd ienc 1 wq wq.heap.size A l := by rw [hwq]; exact hr
     have hbq : Below W.heap.size W wq := by rw [hwq]; exact below_drewN (Below.refl _ _) _
     rw [← hwq]
     have HWQ := Lib.hid hwq
     have HBQ := Lib.hid hbq
     clear hwq hbq
     have iq : i ≤ 4 := by have := H4.out; omega
     by_cases hlt : i < 2
     ·obtain ⟨y, hy⟩ : ∃ y, l[i]? = some y := ⟨_, List.getElem?_eq_getElem (by rw [HN.out]; exact hlt)⟩
      have g2 : decide ((i : Int) < ((2 : Nat) : Int)) = true := by simp; omega
      have g2' : decide (i < 2) = true := by simp [hlt]
      have i1 : (0 : Int) ≤ (i : Int) := by omega
      have i2 : (i : Int) < ((2 : Nat) : Int) := by omega
      have e2 : IntKind.i64.wrap ((i : Int) + 1) = (i : Int) + 1 := IntWalk.i64_in _ (by omega)
      have hgd : l.getD i 0 = y := by rw [List.getD_eq_getElem?_getD, hy]; rfl
      have HGD := Lib.hid hgd; have HNO := Lib.hid hno; have HL := Lib.hid hlt; have HY := Lib.hid hy
      clear hgd hno hlt hy
      go_wp2_with fail
      go_loopw [7] (fun j wr => ∃ k : Nat, k ≤ i ∧ j = .int .i64 k ∧ ((l.take k).any fun x => x == y) = false ∧ ∃ q, wr = wq.drewN q) (fun j _ => i - (intOf j).toNat)
      case atStart => exact ⟨0, Nat.zero_le _, rfl, by simp, 0, rfl⟩
      case round =>
       obtain ⟨k, hk, rfl, hall, q2, rfl⟩ := hrel
       by_cases hki : k < i
       ·obtain ⟨x, hx⟩ : ∃ x, l[k]? = some x := ⟨_, List.getElem?_eq_getElem (by rw [HN.out]; have := HL.out; omega)⟩
        obtain ⟨b, off, rfl, hbb, f0⟩ := i_cell hrq hx
        obtain ⟨b', off', ea, hbb', f1⟩ := i_cell hrq HY.out
        simp only [Option.some.injEq, Addr.mk.injEq, and_true] at ea
        obtain ⟨rfl, rfl⟩ := ea
        have g3 : decide ((k : Int) < (i : Int)) = true := by simp; omega
        have g3' : decide (k < i) = true := by simp [hki]
        have k1 : (0 : Int) ≤ (k : Int) := by omega
        have k2 : (k : Int) < ((2 : Nat) : Int) := by have := HL.out; omega
        have e1 : IntKind.i64.wrap ((k : Int) + 1) = (k : Int) + 1 := IntWalk.i64_in _ (by omega)
        have HST := Lib.hid (any_step (p := fun x => x == y) hall hx)
        have HAT := Lib.hid (any_at (l := l.take i) (p := fun x => x == y) (by rw [List.getElem?_take, if_pos hki]; exact hx))
        have HK := Lib.hid hki
        clear hx hall hki
        obtain ⟨T, hT⟩ : ∃ T, (x == y) = T := ⟨_, rfl⟩
        cases T with
        | true =>
         have HQ := Lib.hid (HAT.out hT)
         go_wp2_with fail
         go_quiet (fail)
         go_wp2_with fail
         go_ret
         exact ⟨ret_i64 (HIND.out HALL.out (dup_yes (i := i) (by rw [HN.out]; exact HL.out) (by unfold dupAt; rw [HGD.out]; exact HQ.out))).symm, below_drewN' (below_drewN' HBQ.out _) _⟩
        | false =>
         have HQ := Lib.hid (HST.out hT)
         go_wp2_with fail
         go_quiet (fail)
         go_wp2_with fail
         go_roundw
         case rel => exact ⟨k + 1, HK.out, by go_num, HQ.out, _, rfl⟩
         case measure => have := HK.out; simp [intOf]; omega
       ·obtain rfl : k = i := by omega
        have g3 : decide ((k : Int) < (k : Int)) = false := by simp
        have g3' : decide (k < k) = false := by simp
        have HALL2 := Lib.hid hall
        clear hall
        go_wp2_with fail
        go_roundw
        case rel => exact ⟨k + 1, HL.out, by go_num, (by intro j hj; rcases Nat.lt_succ_iff_lt_or_eq.1 hj with h | rfl; exact HNO.out j h; unfold dupAt; rw [HGD.out]; exact HALL2.out), _, by rw [HWQ.out]; exact World.drewN_drewN _ _ _⟩
        case measure => have := HL.out; simp [intOf]; omega
     ·obtain rfl : 2 = i := by omega
      have g2 : decide (((2 : Nat) : Int) < ((2 : Nat) : Int)) = false := by simp
      have g2' : decide (2 < 2) = false := by simp
      have HNO := Lib.hid hno
      clear hno
      go_wp2_with fail
      go_ret
      exact ⟨ret_i64 (HZ.out HALL.out (dup_no (by rw [HN.out]; exact HNO.out))).symm, HBQ.out⟩
/-- A query's box read field by field. -/
def QArgs (w : World) (arg : List Nd) (src : List Int) (wh : List Nd) (A B C : Option Addr) (na nb nc : Nat) : Prop :=
 (arg.length = na ∧ Rd nenc 5 w w.heap.size A arg) ∧ (src.length = nb ∧ Rd ienc 1 w w.heap.size B src) ∧ (wh.length = nc ∧ Rd nenc 5 w w.heap.size C wh)
theorem QArgs.grow {w w' : World} {arg : List Nd} {src : List Int} {wh : List Nd} {A B C : Option Addr} {na nb nc : Nat} (h : QArgs w arg src wh A B C na nb nc) (hb : Below w.heap.size w w') : QArgs w' arg src wh A B C na nb nc :=
 ⟨⟨h.1.1, h.1.2.grow hb⟩, ⟨h.2.1.1, h.2.1.2.grow hb⟩, ⟨h.2.2.1, h.2.2.2.grow hb⟩⟩
set_option maxHeartbeats 16000000 in
theorem rchk08_any (ag : Int) (arg : List Nd) (src : List Int) (jo : Bool) (wh : List Nd) (wk ws we : Int) (ky : Bool) (la : Int) (hwe : (Lit.int .i64 we).wf = true) (ha64 : ∀ x ∈ arg, n64 x) (hw64 : ∀ x ∈ wh, n64 x)
  (A B C : Option Addr) (na ca nb cb nc cc : Nat) (w : World) (h : QArgs w arg src wh A B C na nb nc) :
  Calls Tryz.prog 45 #[.agg #[.int .u8 ag, .slice A na ca, .slice B nb cb, .bool jo, .slice C nc cc, .int .u8 wk, .int .i64 ws, .int .i64 we, .bool ky, .int .u8 la]] w fun r w' => r = .returned (.int .i64 (chk08 ag arg src jo wh wk ws we la)) ∧ Below w.heap.size w w' := by
 obtain ⟨R, hR⟩ : ∃ R, chk08 ag arg src jo wh wk ws we la = R := ⟨_, rfl⟩
 rw [hR]
 obtain ⟨⟨la1, lr1⟩, ⟨lb1, lr2⟩, ⟨lc1, lr3⟩⟩ := h
 obtain ⟨ea, hea⟩ : ∃ e, chk04 arg = e := ⟨_, rfl⟩
 obtain ⟨ew, hew⟩ : ∃ e, chk04 wh = e := ⟨_, rfl⟩
 obtain ⟨es, hes⟩ : ∃ e, srcB src jo = e := ⟨_, rfl⟩
 obtain ⟨F, hF⟩ : ∃ F, decide (wok wk ws we) = F := ⟨_, rfl⟩
 have HA := Lib.hid (fun W (hb : Below w.heap.size w W) => show Calls Tryz.prog 80 #[.slice A na ca] W (fun r w' => r = .returned (.int .i64 ea) ∧ Below W.heap.size W w') by have := rchk_any arg ha64 A ca na W la1 (lr1.grow hb); unfold Chk4P at this; rwa [hea] at this)
 have HC := Lib.hid (fun W (hb : Below w.heap.size w W) => show Calls Tryz.prog 80 #[.slice C nc cc] W (fun r w' => r = .returned (.int .i64 ew) ∧ Below W.heap.size W w') by have := rchk_any wh hw64 C cc nc W lc1 (lr3.grow hb); unfold Chk4P at this; rwa [hew] at this)
 have HS := Lib.hid (fun W (hb : Below w.heap.size w W) => by have := rsrc_any src jo B cb nb W lb1 (lr2.grow hb); rwa [hes] at this)
 have HF := Lib.hid (fun W => by have := fits_any wk ws we hwe W; rwa [hF] at this)
 have hwok : wok wk ws we ↔ F = true := by rw [← hF]; simp
 unfold chk08 at hR
 rw [hea, hew, hes, la1, lc1] at hR
 simp only [hwok] at hR
 have hl0 := (Loc.nil w).new [.int .u8 ag, .slice A na ca, .slice B nb cb, .bool jo, .slice C nc cc, .int .u8 wk, .int .i64 ws, .int .i64 we, .bool ky, .int .u8 la] 27
 have hb0 : Below w.heap.size w (w.alloc (.cells #[.int .u8 ag, .slice A na ca, .slice B nb cb, .bool jo, .slice C nc cc, .int .u8 wk, .int .i64 ws, .int .i64 we, .bool ky, .int .u8 la] 27)) := below_new (Below.refl _ _) _
 clear la1 lr1 lb1 lr2 lc1 lr3 hea hew hes hF hwok ha64 hw64 hwe
 by_cases c1 : ag < 1
 ·rw [if_pos (.inl c1)] at hR; subst hR
  have d1 : decide (ag < 1) = true := by simp [c1]
  clear c1
  have hF := hl0
  (repeat unfold Loc at hF)
  go_enter Tryz.func45, Tryz.ntmps45
  go_wp2_with fail
  go_ret
  exact ⟨rfl, hb0⟩
 have d1 : decide (ag < 1) = false := by simp; omega
 by_cases c2 : 4 < ag
 ·rw [if_pos (.inr (.inl c2))] at hR; subst hR
  have d2 : decide (4 < ag) = true := by simp [c2]
  clear c1 c2
  have hF := hl0
  (repeat unfold Loc at hF)
  go_enter Tryz.func45, Tryz.ntmps45
  go_wp2_with fail
  go_ret
  exact ⟨rfl, hb0⟩
 have d2 : decide (4 < ag) = false := by simp; omega
 by_cases c3 : la < 1
 ·rw [if_pos (.inr (.inr (.inl c3)))] at hR; subst hR
  have d3 : decide (la < 1) = true := by simp [c3]
  clear c1 c2 c3
  have hF := hl0
  (repeat unfold Loc at hF)
  go_enter Tryz.func45, Tryz.ntmps45
  go_wp2_with fail
  go_ret
  exact ⟨rfl, hb0⟩
 have d3 : decide (la < 1) = false := by simp; omega
 by_cases c4 : 2 < la
 ·rw [if_pos (.inr (.inr (.inr c4)))] at hR; subst hR
  have d4 : decide (2 < la) = true := by simp [c4]
  clear c1 c2 c3 c4
  have hF := hl0
  (repeat unfold Loc at hF)
  go_enter Tryz.func45, Tryz.ntmps45
  go_wp2_with fail
  go_ret
  exact ⟨rfl, hb0⟩
 have d4 : decide (2 < la) = false := by simp; omega
 rw [if_neg (by omega)] at hR
 clear c1 c2 c3 c4
 have iS : es ≠ 0 → (if es ≠ 0 then es else if ¬ (F = true) ∨ (jo = true ∧ wk ≠ 1) then 8 else 0) = es := fun h => by rw [if_pos h]
 have iF : es = 0 → F = false → (if es ≠ 0 then es else if ¬ (F = true) ∨ (jo = true ∧ wk ≠ 1) then 8 else 0) = (8 : Int) := fun h h1 => by rw [if_neg (by simp [h]), if_pos (.inl (by simp [h1]))]
 have iJ : es = 0 → jo = true → wk ≠ 1 → (if es ≠ 0 then es else if ¬ (F = true) ∨ (jo = true ∧ wk ≠ 1) then 8 else 0) = (8 : Int) := fun h h1 h2 => by rw [if_neg (by simp [h]), if_pos (.inr ⟨h1, h2⟩)]
 have iO : es = 0 → F = true → (jo = true → wk = 1) → (if es ≠ 0 then es else if ¬ (F = true) ∨ (jo = true ∧ wk ≠ 1) then 8 else 0) = (0 : Int) := fun h h1 h2 => by rw [if_neg (by simp [h]), if_neg (by rintro (h3 | h3); exact h3 h1; exact h3.2 (h2 h3.1))]
 generalize (if es ≠ 0 then es else if ¬ (F = true) ∨ (jo = true ∧ wk ≠ 1) then 8 else 0) = T at hR iS iF iJ iO
 by_cases a1 : ag = 1
 ·subst a1
  rw [if_neg (c := (1 : Int) ≠ 1 ∧ ea ≠ 0) (fun h => h.1 rfl)] at hR
  by_cases a2 : na = 0
  rotate_left
  ·rw [if_pos ⟨rfl, by omega⟩] at hR; subst hR
   have d5 : decide (0 < na) = true := by simp; omega
   have d5' : decide ((0 : Int) < (na : Int)) = true := by simp; omega
   clear a2 iS iF iJ iO
   have hF := hl0
   (repeat unfold Loc at hF)
   go_enter Tryz.func45, Tryz.ntmps45
   go_wp2_with fail
   go_ret
   exact ⟨rfl, hb0⟩
  subst a2
  rw [if_neg (fun h => absurd h.2 (by omega))] at hR
  by_cases w0 : nc = 0
  rotate_left
  ·have dn : decide (0 < nc) = true := by simp; omega
   have dn' : decide ((0 : Int) < (nc : Int)) = true := by simp; omega
   by_cases w1 : ew = 0
   rotate_left
   ·rw [if_pos ⟨by omega, w1⟩] at hR
    have dw1 : (ew != 0) = true := by simp [w1]
    clear iS iF iJ iO w0 w1
    subst hR
    have hF := hl0
    (repeat unfold Loc at hF)
    go_enter Tryz.func45, Tryz.ntmps45
    go_wp2_with fail
    go_at_call 80
    refine (HC.out _ hb0).mono ?_
    rintro r xw ⟨rfl, hbc⟩
    replace hl0 := hl0.below hbc
    replace hb0 := below_then hb0 hbc
    clear hbc hF
    have hF := hl0
    (repeat unfold Loc at hF)
    go_wp2_with fail
    go_at_call 80
    refine (HC.out _ hb0).mono ?_
    rintro r xw ⟨rfl, hbc⟩
    replace hl0 := hl0.below hbc
    replace hb0 := below_then hb0 hbc
    clear hbc hF
    have hF := hl0
    (repeat unfold Loc at hF)
    go_wp2_with fail
    go_ret
    exact ⟨rfl, hb0⟩
   subst w1
   rw [if_neg (fun h => h.2 rfl)] at hR
   clear w0
   by_cases t1 : es = 0
   rotate_left
   ·rw [iS t1] at hR
    have dt : (es != 0) = true := by simp [t1]
    clear iS iF iJ iO t1
    subst hR
    have hF := hl0
    (repeat unfold Loc at hF)
    go_enter Tryz.func45, Tryz.ntmps45
    go_wp2_with fail
    go_at_call 80
    refine (HC.out _ hb0).mono ?_
    rintro r xw ⟨rfl, hbc⟩
    replace hl0 := hl0.below hbc
    replace hb0 := below_then hb0 hbc
    clear hbc hF
    have hF := hl0
    (repeat unfold Loc at hF)
    go_wp2_with fail
    go_at_call 81
    refine (HS.out _ hb0).mono ?_
    rintro r xw ⟨rfl, hbc⟩
    replace hl0 := hl0.below hbc
    replace hb0 := below_then hb0 hbc
    clear hbc hF
    have hF := hl0
    (repeat unfold Loc at hF)
    go_wp2_with fail
    go_at_call 81
    refine (HS.out _ hb0).mono ?_
    rintro r xw ⟨rfl, hbc⟩
    replace hl0 := hl0.below hbc
    replace hb0 := below_then hb0 hbc
    clear hbc hF
    have hF := hl0
    (repeat unfold Loc at hF)
    go_wp2_with fail
    go_ret
    exact ⟨rfl, hb0⟩
   subst t1
   cases F with
   | false =>
    obtain rfl := iF rfl rfl
    clear iS iF iJ iO
    subst hR
    have hF := hl0
    (repeat unfold Loc at hF)
    go_enter Tryz.func45, Tryz.ntmps45
    go_wp2_with fail
    go_at_call 80
    refine (HC.out _ hb0).mono ?_
    rintro r xw ⟨rfl, hbc⟩
    replace hl0 := hl0.below hbc
    replace hb0 := below_then hb0 hbc
    clear hbc hF
    have hF := hl0
    (repeat unfold Loc at hF)
    go_wp2_with fail
    go_at_call 81
    refine (HS.out _ hb0).mono ?_
    rintro r xw ⟨rfl, hbc⟩
    replace hl0 := hl0.below hbc
    replace hb0 := below_then hb0 hbc
    clear hbc hF
    have hF := hl0
    (repeat unfold Loc at hF)
    go_wp2_with fail
    go_at_call 74
    refine (HF.out _).mono ?_
    rintro r xw ⟨rfl, hbc⟩
    replace hl0 := hl0.below hbc
    replace hb0 := below_then hb0 hbc
    clear hbc hF
    have hF := hl0
    (repeat unfold Loc at hF)
    go_wp2_with fail
    go_ret
    exact ⟨rfl, hb0⟩
   | true =>
    cases jo with
    | false =>
     obtain rfl := iO rfl rfl (fun h => (by cases h))
     clear iS iF iJ iO
     subst hR
     have hF := hl0
     (repeat unfold Loc at hF)
     go_enter Tryz.func45, Tryz.ntmps45
     go_wp2_with fail
     go_at_call 80
     refine (HC.out _ hb0).mono ?_
     rintro r xw ⟨rfl, hbc⟩
     replace hl0 := hl0.below hbc
     replace hb0 := below_then hb0 hbc
     clear hbc hF
     have hF := hl0
     (repeat unfold Loc at hF)
     go_wp2_with fail
     go_at_call 81
     refine (HS.out _ hb0).mono ?_
     rintro r xw ⟨rfl, hbc⟩
     replace hl0 := hl0.below hbc
     replace hb0 := below_then hb0 hbc
     clear hbc hF
     have hF := hl0
     (repeat unfold Loc at hF)
     go_wp2_with fail
     go_at_call 74
     refine (HF.out _).mono ?_
     rintro r xw ⟨rfl, hbc⟩
     replace hl0 := hl0.below hbc
     replace hb0 := below_then hb0 hbc
     clear hbc hF
     have hF := hl0
     (repeat unfold Loc at hF)
     go_wp2_with fail
     go_ret
     exact ⟨rfl, hb0⟩
    | true =>
     by_cases t2 : wk = 1
     ·obtain rfl := iO rfl rfl (fun _ => t2)
      subst t2
      clear iS iF iJ iO
      subst hR
      have hF := hl0
      (repeat unfold Loc at hF)
      go_enter Tryz.func45, Tryz.ntmps45
      go_wp2_with fail
      go_at_call 80
      refine (HC.out _ hb0).mono ?_
      rintro r xw ⟨rfl, hbc⟩
      replace hl0 := hl0.below hbc
      replace hb0 := below_then hb0 hbc
      clear hbc hF
      have hF := hl0
      (repeat unfold Loc at hF)
      go_wp2_with fail
      go_at_call 81
      refine (HS.out _ hb0).mono ?_
      rintro r xw ⟨rfl, hbc⟩
      replace hl0 := hl0.below hbc
      replace hb0 := below_then hb0 hbc
      clear hbc hF
      have hF := hl0
      (repeat unfold Loc at hF)
      go_wp2_with fail
      go_at_call 74
      refine (HF.out _).mono ?_
      rintro r xw ⟨rfl, hbc⟩
      replace hl0 := hl0.below hbc
      replace hb0 := below_then hb0 hbc
      clear hbc hF
      have hF := hl0
      (repeat unfold Loc at hF)
      go_wp2_with fail
      go_ret
      exact ⟨rfl, hb0⟩
     ·obtain rfl := iJ rfl rfl t2
      have dw : (wk != 1) = true := by simp [t2]
      clear iS iF iJ iO t2
      subst hR
      have hF := hl0
      (repeat unfold Loc at hF)
      go_enter Tryz.func45, Tryz.ntmps45
      go_wp2_with fail
      go_at_call 80
      refine (HC.out _ hb0).mono ?_
      rintro r xw ⟨rfl, hbc⟩
      replace hl0 := hl0.below hbc
      replace hb0 := below_then hb0 hbc
      clear hbc hF
      have hF := hl0
      (repeat unfold Loc at hF)
      go_wp2_with fail
      go_at_call 81
      refine (HS.out _ hb0).mono ?_
      rintro r xw ⟨rfl, hbc⟩
      replace hl0 := hl0.below hbc
      replace hb0 := below_then hb0 hbc
      clear hbc hF
      have hF := hl0
      (repeat unfold Loc at hF)
      go_wp2_with fail
      go_at_call 74
      refine (HF.out _).mono ?_
      rintro r xw ⟨rfl, hbc⟩
      replace hl0 := hl0.below hbc
      replace hb0 := below_then hb0 hbc
      clear hbc hF
      have hF := hl0
      (repeat unfold Loc at hF)
      go_wp2_with fail
      go_ret
      exact ⟨rfl, hb0⟩
  subst w0
  rw [if_neg (fun h => absurd h.1 (by omega))] at hR
  by_cases t1 : es = 0
  rotate_left
  ·rw [iS t1] at hR
   have dt : (es != 0) = true := by simp [t1]
   clear iS iF iJ iO t1
   subst hR
   have hF := hl0
   (repeat unfold Loc at hF)
   go_enter Tryz.func45, Tryz.ntmps45
   go_wp2_with fail
   go_at_call 81
   refine (HS.out _ hb0).mono ?_
   rintro r xw ⟨rfl, hbc⟩
   replace hl0 := hl0.below hbc
   replace hb0 := below_then hb0 hbc
   clear hbc hF
   have hF := hl0
   (repeat unfold Loc at hF)
   go_wp2_with fail
   go_at_call 81
   refine (HS.out _ hb0).mono ?_
   rintro r xw ⟨rfl, hbc⟩
   replace hl0 := hl0.below hbc
   replace hb0 := below_then hb0 hbc
   clear hbc hF
   have hF := hl0
   (repeat unfold Loc at hF)
   go_wp2_with fail
   go_ret
   exact ⟨rfl, hb0⟩
  subst t1
  cases F with
  | false =>
   obtain rfl := iF rfl rfl
   clear iS iF iJ iO
   subst hR
   have hF := hl0
   (repeat unfold Loc at hF)
   go_enter Tryz.func45, Tryz.ntmps45
   go_wp2_with fail
   go_at_call 81
   refine (HS.out _ hb0).mono ?_
   rintro r xw ⟨rfl, hbc⟩
   replace hl0 := hl0.below hbc
   replace hb0 := below_then hb0 hbc
   clear hbc hF
   have hF := hl0
   (repeat unfold Loc at hF)
   go_wp2_with fail
   go_at_call 74
   refine (HF.out _).mono ?_
   rintro r xw ⟨rfl, hbc⟩
   replace hl0 := hl0.below hbc
   replace hb0 := below_then hb0 hbc
   clear hbc hF
   have hF := hl0
   (repeat unfold Loc at hF)
   go_wp2_with fail
   go_ret
   exact ⟨rfl, hb0⟩
  | true =>
   cases jo with
   | false =>
    obtain rfl := iO rfl rfl (fun h => (by cases h))
    clear iS iF iJ iO
    subst hR
    have hF := hl0
    (repeat unfold Loc at hF)
    go_enter Tryz.func45, Tryz.ntmps45
    go_wp2_with fail
    go_at_call 81
    refine (HS.out _ hb0).mono ?_
    rintro r xw ⟨rfl, hbc⟩
    replace hl0 := hl0.below hbc
    replace hb0 := below_then hb0 hbc
    clear hbc hF
    have hF := hl0
    (repeat unfold Loc at hF)
    go_wp2_with fail
    go_at_call 74
    refine (HF.out _).mono ?_
    rintro r xw ⟨rfl, hbc⟩
    replace hl0 := hl0.below hbc
    replace hb0 := below_then hb0 hbc
    clear hbc hF
    have hF := hl0
    (repeat unfold Loc at hF)
    go_wp2_with fail
    go_ret
    exact ⟨rfl, hb0⟩
   | true =>
    by_cases t2 : wk = 1
    ·obtain rfl := iO rfl rfl (fun _ => t2)
     subst t2
     clear iS iF iJ iO
     subst hR
     have hF := hl0
     (repeat unfold Loc at hF)
     go_enter Tryz.func45, Tryz.ntmps45
     go_wp2_with fail
     go_at_call 81
     refine (HS.out _ hb0).mono ?_
     rintro r xw ⟨rfl, hbc⟩
     replace hl0 := hl0.below hbc
     replace hb0 := below_then hb0 hbc
     clear hbc hF
     have hF := hl0
     (repeat unfold Loc at hF)
     go_wp2_with fail
     go_at_call 74
     refine (HF.out _).mono ?_
     rintro r xw ⟨rfl, hbc⟩
     replace hl0 := hl0.below hbc
     replace hb0 := below_then hb0 hbc
     clear hbc hF
     have hF := hl0
     (repeat unfold Loc at hF)
     go_wp2_with fail
     go_ret
     exact ⟨rfl, hb0⟩
    ·obtain rfl := iJ rfl rfl t2
     have dw : (wk != 1) = true := by simp [t2]
     clear iS iF iJ iO t2
     subst hR
     have hF := hl0
     (repeat unfold Loc at hF)
     go_enter Tryz.func45, Tryz.ntmps45
     go_wp2_with fail
     go_at_call 81
     refine (HS.out _ hb0).mono ?_
     rintro r xw ⟨rfl, hbc⟩
     replace hl0 := hl0.below hbc
     replace hb0 := below_then hb0 hbc
     clear hbc hF
     have hF := hl0
     (repeat unfold Loc at hF)
     go_wp2_with fail
     go_at_call 74
     refine (HF.out _).mono ?_
     rintro r xw ⟨rfl, hbc⟩
     replace hl0 := hl0.below hbc
     replace hb0 := below_then hb0 hbc
     clear hbc hF
     have hF := hl0
     (repeat unfold Loc at hF)
     go_wp2_with fail
     go_ret
     exact ⟨rfl, hb0⟩
 ·have d5 : (ag == 1) = false := by simp [a1]
  have d6 : (ag != 1) = true := by simp [a1]
  rw [if_neg (fun h => a1 h.1)] at hR
  by_cases a3 : ea = 0
  rotate_left
  ·rw [if_pos ⟨a1, a3⟩] at hR; subst hR
   have d7 : (ea != 0) = true := by simp [a3]
   clear a1 a3 iS iF iJ iO
   have hF := hl0
   (repeat unfold Loc at hF)
   go_enter Tryz.func45, Tryz.ntmps45
   go_wp2_with fail
   go_at_call 80
   refine (HA.out _ hb0).mono ?_
   rintro r xw ⟨rfl, hbc⟩
   replace hl0 := hl0.below hbc
   replace hb0 := below_then hb0 hbc
   clear hbc hF
   have hF := hl0
   (repeat unfold Loc at hF)
   go_wp2_with fail
   go_at_call 80
   refine (HA.out _ hb0).mono ?_
   rintro r xw ⟨rfl, hbc⟩
   replace hl0 := hl0.below hbc
   replace hb0 := below_then hb0 hbc
   clear hbc hF
   have hF := hl0
   (repeat unfold Loc at hF)
   go_wp2_with fail
   go_ret
   exact ⟨rfl, hb0⟩
  subst a3
  rw [if_neg (fun h => h.2 rfl)] at hR
  clear a1
  by_cases w0 : nc = 0
  rotate_left
  ·have dn : decide (0 < nc) = true := by simp; omega
   have dn' : decide ((0 : Int) < (nc : Int)) = true := by simp; omega
   by_cases w1 : ew = 0
   rotate_left
   ·rw [if_pos ⟨by omega, w1⟩] at hR
    have dw1 : (ew != 0) = true := by simp [w1]
    clear iS iF iJ iO w0 w1
    subst hR
    have hF := hl0
    (repeat unfold Loc at hF)
    go_enter Tryz.func45, Tryz.ntmps45
    go_wp2_with fail
    go_at_call 80
    refine (HA.out _ hb0).mono ?_
    rintro r xw ⟨rfl, hbc⟩
    replace hl0 := hl0.below hbc
    replace hb0 := below_then hb0 hbc
    clear hbc hF
    have hF := hl0
    (repeat unfold Loc at hF)
    go_wp2_with fail
    go_at_call 80
    refine (HC.out _ hb0).mono ?_
    rintro r xw ⟨rfl, hbc⟩
    replace hl0 := hl0.below hbc
    replace hb0 := below_then hb0 hbc
    clear hbc hF
    have hF := hl0
    (repeat unfold Loc at hF)
    go_wp2_with fail
    go_at_call 80
    refine (HC.out _ hb0).mono ?_
    rintro r xw ⟨rfl, hbc⟩
    replace hl0 := hl0.below hbc
    replace hb0 := below_then hb0 hbc
    clear hbc hF
    have hF := hl0
    (repeat unfold Loc at hF)
    go_wp2_with fail
    go_ret
    exact ⟨rfl, hb0⟩
   subst w1
   rw [if_neg (fun h => h.2 rfl)] at hR
   clear w0
   by_cases t1 : es = 0
   rotate_left
   ·rw [iS t1] at hR
    have dt : (es != 0) = true := by simp [t1]
    clear iS iF iJ iO t1
    subst hR
    have hF := hl0
    (repeat unfold Loc at hF)
    go_enter Tryz.func45, Tryz.ntmps45
    go_wp2_with fail
    go_at_call 80
    refine (HA.out _ hb0).mono ?_
    rintro r xw ⟨rfl, hbc⟩
    replace hl0 := hl0.below hbc
    replace hb0 := below_then hb0 hbc
    clear hbc hF
    have hF := hl0
    (repeat unfold Loc at hF)
    go_wp2_with fail
    go_at_call 80
    refine (HC.out _ hb0).mono ?_
    rintro r xw ⟨rfl, hbc⟩
    replace hl0 := hl0.below hbc
    replace hb0 := below_then hb0 hbc
    clear hbc hF
    have hF := hl0
    (repeat unfold Loc at hF)
    go_wp2_with fail
    go_at_call 81
    refine (HS.out _ hb0).mono ?_
    rintro r xw ⟨rfl, hbc⟩
    replace hl0 := hl0.below hbc
    replace hb0 := below_then hb0 hbc
    clear hbc hF
    have hF := hl0
    (repeat unfold Loc at hF)
    go_wp2_with fail
    go_at_call 81
    refine (HS.out _ hb0).mono ?_
    rintro r xw ⟨rfl, hbc⟩
    replace hl0 := hl0.below hbc
    replace hb0 := below_then hb0 hbc
    clear hbc hF
    have hF := hl0
    (repeat unfold Loc at hF)
    go_wp2_with fail
    go_ret
    exact ⟨rfl, hb0⟩
   subst t1
   cases F with
   | false =>
    obtain rfl := iF rfl rfl
    clear iS iF iJ iO
    subst hR
    have hF := hl0
    (repeat unfold Loc at hF)
    go_enter Tryz.func45, Tryz.ntmps45
    go_wp2_with fail
    go_at_call 80
    refine (HA.out _ hb0).mono ?_
    rintro r xw ⟨rfl, hbc⟩
    replace hl0 := hl0.below hbc
    replace hb0 := below_then hb0 hbc
    clear hbc hF
    have hF := hl0
    (repeat unfold Loc at hF)
    go_wp2_with fail
    go_at_call 80
    refine (HC.out _ hb0).mono ?_
    rintro r xw ⟨rfl, hbc⟩
    replace hl0 := hl0.below hbc
    replace hb0 := below_then hb0 hbc
    clear hbc hF
    have hF := hl0
    (repeat unfold Loc at hF)
    go_wp2_with fail
    go_at_call 81
    refine (HS.out _ hb0).mono ?_
    rintro r xw ⟨rfl, hbc⟩
    replace hl0 := hl0.below hbc
    replace hb0 := below_then hb0 hbc
    clear hbc hF
    have hF := hl0
    (repeat unfold Loc at hF)
    go_wp2_with fail
    go_at_call 74
    refine (HF.out _).mono ?_
    rintro r xw ⟨rfl, hbc⟩
    replace hl0 := hl0.below hbc
    replace hb0 := below_then hb0 hbc
    clear hbc hF
    have hF := hl0
    (repeat unfold Loc at hF)
    go_wp2_with fail
    go_ret
    exact ⟨rfl, hb0⟩
   | true =>
    cases jo with
    | false =>
     obtain rfl := iO rfl rfl (fun h => (by cases h))
     clear iS iF iJ iO
     subst hR
     have hF := hl0
     (repeat unfold Loc at hF)
     go_enter Tryz.func45, Tryz.ntmps45
     go_wp2_with fail
     go_at_call 80
     refine (HA.out _ hb0).mono ?_
     rintro r xw ⟨rfl, hbc⟩
     replace hl0 := hl0.below hbc
     replace hb0 := below_then hb0 hbc
     clear hbc hF
     have hF := hl0
     (repeat unfold Loc at hF)
     go_wp2_with fail
     go_at_call 80
     refine (HC.out _ hb0).mono ?_
     rintro r xw ⟨rfl, hbc⟩
     replace hl0 := hl0.below hbc
     replace hb0 := below_then hb0 hbc
     clear hbc hF
     have hF := hl0
     (repeat unfold Loc at hF)
     go_wp2_with fail
     go_at_call 81
     refine (HS.out _ hb0).mono ?_
     rintro r xw ⟨rfl, hbc⟩
     replace hl0 := hl0.below hbc
     replace hb0 := below_then hb0 hbc
     clear hbc hF
     have hF := hl0
     (repeat unfold Loc at hF)
     go_wp2_with fail
     go_at_call 74
     refine (HF.out _).mono ?_
     rintro r xw ⟨rfl, hbc⟩
     replace hl0 := hl0.below hbc
     replace hb0 := below_then hb0 hbc
     clear hbc hF
     have hF := hl0
     (repeat unfold Loc at hF)
     go_wp2_with fail
     go_ret
     exact ⟨rfl, hb0⟩
    | true =>
     by_cases t2 : wk = 1
     ·obtain rfl := iO rfl rfl (fun _ => t2)
      subst t2
      clear iS iF iJ iO
      subst hR
      have hF := hl0
      (repeat unfold Loc at hF)
      go_enter Tryz.func45, Tryz.ntmps45
      go_wp2_with fail
      go_at_call 80
      refine (HA.out _ hb0).mono ?_
      rintro r xw ⟨rfl, hbc⟩
      replace hl0 := hl0.below hbc
      replace hb0 := below_then hb0 hbc
      clear hbc hF
      have hF := hl0
      (repeat unfold Loc at hF)
      go_wp2_with fail
      go_at_call 80
      refine (HC.out _ hb0).mono ?_
      rintro r xw ⟨rfl, hbc⟩
      replace hl0 := hl0.below hbc
      replace hb0 := below_then hb0 hbc
      clear hbc hF
      have hF := hl0
      (repeat unfold Loc at hF)
      go_wp2_with fail
      go_at_call 81
      refine (HS.out _ hb0).mono ?_
      rintro r xw ⟨rfl, hbc⟩
      replace hl0 := hl0.below hbc
      replace hb0 := below_then hb0 hbc
      clear hbc hF
      have hF := hl0
      (repeat unfold Loc at hF)
      go_wp2_with fail
      go_at_call 74
      refine (HF.out _).mono ?_
      rintro r xw ⟨rfl, hbc⟩
      replace hl0 := hl0.below hbc
      replace hb0 := below_then hb0 hbc
      clear hbc hF
      have hF := hl0
      (repeat unfold Loc at hF)
      go_wp2_with fail
      go_ret
      exact ⟨rfl, hb0⟩
     ·obtain rfl := iJ rfl rfl t2
      have dw : (wk != 1) = true := by simp [t2]
      clear iS iF iJ iO t2
      subst hR
      have hF := hl0
      (repeat unfold Loc at hF)
      go_enter Tryz.func45, Tryz.ntmps45
      go_wp2_with fail
      go_at_call 80
      refine (HA.out _ hb0).mono ?_
      rintro r xw ⟨rfl, hbc⟩
      replace hl0 := hl0.below hbc
      replace hb0 := below_then hb0 hbc
      clear hbc hF
      have hF := hl0
      (repeat unfold Loc at hF)
      go_wp2_with fail
      go_at_call 80
      refine (HC.out _ hb0).mono ?_
      rintro r xw ⟨rfl, hbc⟩
      replace hl0 := hl0.below hbc
      replace hb0 := below_then hb0 hbc
      clear hbc hF
      have hF := hl0
      (repeat unfold Loc at hF)
      go_wp2_with fail
      go_at_call 81
      refine (HS.out _ hb0).mono ?_
      rintro r xw ⟨rfl, hbc⟩
      replace hl0 := hl0.below hbc
      replace hb0 := below_then hb0 hbc
      clear hbc hF
      have hF := hl0
      (repeat unfold Loc at hF)
      go_wp2_with fail
      go_at_call 74
      refine (HF.out _).mono ?_
      rintro r xw ⟨rfl, hbc⟩
      replace hl0 := hl0.below hbc
      replace hb0 := below_then hb0 hbc
      clear hbc hF
      have hF := hl0
      (repeat unfold Loc at hF)
      go_wp2_with fail
      go_ret
      exact ⟨rfl, hb0⟩
  subst w0
  rw [if_neg (fun h => absurd h.1 (by omega))] at hR
  by_cases t1 : es = 0
  rotate_left
  ·rw [iS t1] at hR
   have dt : (es != 0) = true := by simp [t1]
   clear iS iF iJ iO t1
   subst hR
   have hF := hl0
   (repeat unfold Loc at hF)
   go_enter Tryz.func45, Tryz.ntmps45
   go_wp2_with fail
   go_at_call 80
   refine (HA.out _ hb0).mono ?_
   rintro r xw ⟨rfl, hbc⟩
   replace hl0 := hl0.below hbc
   replace hb0 := below_then hb0 hbc
   clear hbc hF
   have hF := hl0
   (repeat unfold Loc at hF)
   go_wp2_with fail
   go_at_call 81
   refine (HS.out _ hb0).mono ?_
   rintro r xw ⟨rfl, hbc⟩
   replace hl0 := hl0.below hbc
   replace hb0 := below_then hb0 hbc
   clear hbc hF
   have hF := hl0
   (repeat unfold Loc at hF)
   go_wp2_with fail
   go_at_call 81
   refine (HS.out _ hb0).mono ?_
   rintro r xw ⟨rfl, hbc⟩
   replace hl0 := hl0.below hbc
   replace hb0 := below_then hb0 hbc
   clear hbc hF
   have hF := hl0
   (repeat unfold Loc at hF)
   go_wp2_with fail
   go_ret
   exact ⟨rfl, hb0⟩
  subst t1
  cases F with
  | false =>
   obtain rfl := iF rfl rfl
   clear iS iF iJ iO
   subst hR
   have hF := hl0
   (repeat unfold Loc at hF)
   go_enter Tryz.func45, Tryz.ntmps45
   go_wp2_with fail
   go_at_call 80
   refine (HA.out _ hb0).mono ?_
   rintro r xw ⟨rfl, hbc⟩
   replace hl0 := hl0.below hbc
   replace hb0 := below_then hb0 hbc
   clear hbc hF
   have hF := hl0
   (repeat unfold Loc at hF)
   go_wp2_with fail
   go_at_call 81
   refine (HS.out _ hb0).mono ?_
   rintro r xw ⟨rfl, hbc⟩
   replace hl0 := hl0.below hbc
   replace hb0 := below_then hb0 hbc
   clear hbc hF
   have hF := hl0
   (repeat unfold Loc at hF)
   go_wp2_with fail
   go_at_call 74
   refine (HF.out _).mono ?_
   rintro r xw ⟨rfl, hbc⟩
   replace hl0 := hl0.below hbc
   replace hb0 := below_then hb0 hbc
   clear hbc hF
   have hF := hl0
   (repeat unfold Loc at hF)
   go_wp2_with fail
   go_ret
   exact ⟨rfl, hb0⟩
  | true =>
   cases jo with
   | false =>
    obtain rfl := iO rfl rfl (fun h => (by cases h))
    clear iS iF iJ iO
    subst hR
    have hF := hl0
    (repeat unfold Loc at hF)
    go_enter Tryz.func45, Tryz.ntmps45
    go_wp2_with fail
    go_at_call 80
    refine (HA.out _ hb0).mono ?_
    rintro r xw ⟨rfl, hbc⟩
    replace hl0 := hl0.below hbc
    replace hb0 := below_then hb0 hbc
    clear hbc hF
    have hF := hl0
    (repeat unfold Loc at hF)
    go_wp2_with fail
    go_at_call 81
    refine (HS.out _ hb0).mono ?_
    rintro r xw ⟨rfl, hbc⟩
    replace hl0 := hl0.below hbc
    replace hb0 := below_then hb0 hbc
    clear hbc hF
    have hF := hl0
    (repeat unfold Loc at hF)
    go_wp2_with fail
    go_at_call 74
    refine (HF.out _).mono ?_
    rintro r xw ⟨rfl, hbc⟩
    replace hl0 := hl0.below hbc
    replace hb0 := below_then hb0 hbc
    clear hbc hF
    have hF := hl0
    (repeat unfold Loc at hF)
    go_wp2_with fail
    go_ret
    exact ⟨rfl, hb0⟩
   | true =>
    by_cases t2 : wk = 1
    ·obtain rfl := iO rfl rfl (fun _ => t2)
     subst t2
     clear iS iF iJ iO
     subst hR
     have hF := hl0
     (repeat unfold Loc at hF)
     go_enter Tryz.func45, Tryz.ntmps45
     go_wp2_with fail
     go_at_call 80
     refine (HA.out _ hb0).mono ?_
     rintro r xw ⟨rfl, hbc⟩
     replace hl0 := hl0.below hbc
     replace hb0 := below_then hb0 hbc
     clear hbc hF
     have hF := hl0
     (repeat unfold Loc at hF)
     go_wp2_with fail
     go_at_call 81
     refine (HS.out _ hb0).mono ?_
     rintro r xw ⟨rfl, hbc⟩
     replace hl0 := hl0.below hbc
     replace hb0 := below_then hb0 hbc
     clear hbc hF
     have hF := hl0
     (repeat unfold Loc at hF)
     go_wp2_with fail
     go_at_call 74
     refine (HF.out _).mono ?_
     rintro r xw ⟨rfl, hbc⟩
     replace hl0 := hl0.below hbc
     replace hb0 := below_then hb0 hbc
     clear hbc hF
     have hF := hl0
     (repeat unfold Loc at hF)
     go_wp2_with fail
     go_ret
     exact ⟨rfl, hb0⟩
    ·obtain rfl := iJ rfl rfl t2
     have dw : (wk != 1) = true := by simp [t2]
     clear iS iF iJ iO t2
     subst hR
     have hF := hl0
     (repeat unfold Loc at hF)
     go_enter Tryz.func45, Tryz.ntmps45
     go_wp2_with fail
     go_at_call 80
     refine (HA.out _ hb0).mono ?_
     rintro r xw ⟨rfl, hbc⟩
     replace hl0 := hl0.below hbc
     replace hb0 := below_then hb0 hbc
     clear hbc hF
     have hF := hl0
     (repeat unfold Loc at hF)
     go_wp2_with fail
     go_at_call 81
     refine (HS.out _ hb0).mono ?_
     rintro r xw ⟨rfl, hbc⟩
     replace hl0 := hl0.below hbc
     replace hb0 := below_then hb0 hbc
     clear hbc hF
     have hF := hl0
     (repeat unfold Loc at hF)
     go_wp2_with fail
     go_at_call 74
     refine (HF.out _).mono ?_
     rintro r xw ⟨rfl, hbc⟩
     replace hl0 := hl0.below hbc
     replace hb0 := below_then hb0 hbc
     clear hbc hF
     have hF := hl0
     (repeat unfold Loc at hF)
     go_wp2_with fail
     go_ret
     exact ⟨rfl, hb0⟩
end Go.Proofs.YtnljihjhmgpcoaaGreat
