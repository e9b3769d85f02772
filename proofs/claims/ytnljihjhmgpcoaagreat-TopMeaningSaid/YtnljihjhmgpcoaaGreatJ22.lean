/- Lemmas and contracts for the statement, joined into one text: SessOf. The conditions of each stand at its head. -/
import Derived.Test.YtnljihjhmgpcoaaGreatJ21
import Derived.Test.YtnljihjhmgpcoaaGreatJ3
import Derived.StillTailTactics
namespace Go.Proofs.YtnljihjhmgpcoaaGreat
open Go.RowKit
def stimes (g : Int) (ts : List Int) : List (Int × Int) := ts.map fun t => (t, t + g)
/-- The sessions of times. -/
noncomputable def sof (ts : List Int) (g : Int) : List (Int × Int) × Int :=
 if sck 0 g ≠ 0 then ([], sck 0 g) else if 4000 < ts.length then ([], 4) else if ∀ t ∈ ts, sck t g = 0 then (canon (stimes g ts), 0) else ([], 16)
theorem int_at {w : World} {B : Nat} {A : Option Addr} {l : List Int} (h : Rd ienc 1 w B A l) {k : Nat} {x : Int} (hx : l[k]? = some x) : ∃ b off, A = some ⟨b, off, none⟩ ∧ b < B ∧ w.cell? ⟨b, off + k, none⟩ = some (.int .i64 x) := by
 obtain ⟨b, off, e, hb, hc⟩ := h.at_ hx
 exact ⟨b, off, e, hb, by simpa using hc 0 _ rfl⟩
theorem stimes_snoc {ts : List Int} {k : Nat} {t g : Int} (hx : ts[k]? = some t) : stimes g (ts.take (k + 1)) = stimes g (ts.take k) ++ [(t, t + g)] := by
 rw [List.take_add_one, hx]
 simp [stimes]
theorem sck_gap {t g : Int} (h : sck 0 g = 0) (ht : sck t g ≠ 0) : sck t g = 16 := by unfold sck at *; grind
theorem sck_zero_gap {t g : Int} (h : sck t g = 0) : sck 0 g = 0 := by unfold sck at *; grind
theorem stimes_ok {g : Int} {ts : List Int} (h : 1 ≤ g) : ∀ x ∈ stimes g ts, x.1 < x.2 := fun x hx => by
 obtain ⟨t, _, rfl⟩ := List.mem_map.1 hx
 simp only
 omega
theorem all_succ {P : Int → Prop} {ts : List Int} {k : Nat} {t : Int} (h : ∀ t ∈ ts.take k, P t) (hx : ts[k]? = some t) (ht : P t) : ∀ t ∈ ts.take (k + 1), P t := fun u hu => by
 rw [List.take_add_one, hx] at hu
 rcases List.mem_append.1 hu with hu | hu
 ·exact h u hu
 ·simp at hu; subst hu; exact ht
set_option maxHeartbeats 4000000 in
set_option maxRecDepth 100000 in
theorem sof_any (A : Option Addr) (c n : Nat) (ts : List Int) (g : Int) (w : World) (hln : ts.length = n) (hr : Rd ienc 1 w w.heap.size A ts) :
  Calls Tryz.prog 55 #[.slice A n c, .int .i64 g] w fun e w' => ∃ v, e = .returned (.tuple #[v, .int .i64 (sof ts g).2]) ∧ Own senc 2 w' w.heap.size 59 v (sof ts g).1 ∧ Below w.heap.size w w' := by
 obtain ⟨i0, hi0, hz0, hz1, hz2⟩ := info_parts sp_info
 obtain ⟨K, hK⟩ : ∃ K, K = sck 0 g := ⟨_, rfl⟩
 have hcheck := fun W => scheck_any 0 g W
 rw [← hK] at hcheck
 have HC := Lib.hid hcheck
 clear hcheck
 by_cases hk : K = 0
 ·have e2 : (K != 0) = false := by simp [hk]
  obtain ⟨k1, k2, -, -⟩ := sck_zero (t := 0) (g := g) (by rw [← hK]; exact hk)
  by_cases hm : 4000 < n
  ·have b0 : decide ((4000 : Int) < (n : Int)) = true := by simp; omega
   have b0' : decide (4000 < n) = true := by simp [hm]
   have hs : sof ts g = ([], 4) := by unfold sof; rw [← hK, if_neg (by simp [hk]), if_pos (by omega)]
   have HS := Lib.hid hs
   clear hs hln hm hK hk
   go_enter Tryz.func55, Tryz.ntmps55
   go_wp2_with fail
   go_at_call 89
   refine (HC.out _).mono ?_
   rintro r w1 ⟨rfl, rfl⟩
   go_wp2
   go_ret2
   rw [HS.out]
   exact ⟨.slice none 0 0, rfl, Own.nil _ _ _, Below.refl _ _⟩
  ·have b0 : decide ((4000 : Int) < (n : Int)) = false := by simp; omega
   have b0' : decide (4000 < n) = false := by simp [hm]
   have hs : sof ts g = if ∀ t ∈ ts, sck t g = 0 then (canon (stimes g ts), 0) else ([], 16) := by unfold sof; rw [← hK, if_neg (by simp [hk]), if_neg (by omega)]
   have hgap : ∀ t, sck t g ≠ 0 → sck t g = 16 := fun t => sck_gap (by rw [← hK]; exact hk)
   have HS := Lib.hid hs; have HL := Lib.hid hln; have HG := Lib.hid hgap
   have hn : n ≤ 4000 := by omega
   clear hs hln hm hK hk hgap
   go_enter Tryz.func55, Tryz.ntmps55
   go_wp2_with fail
   go_at_call 89
   refine (HC.out _).mono ?_
   rintro r w1 ⟨rfl, rfl⟩
   go_wp2_with fail
   go_loopw [7, 21] (fun o i wr => ∃ (k : Nat) (os : List (Int × Int)), k ≤ n ∧ i = .int .i64 k ∧ os = stimes g (ts.take k) ∧ os.length = k ∧ (∀ t ∈ ts.take k, sck t g = 0) ∧ Own senc 2 wr w.heap.size 59 o os ∧ Below w.heap.size w wr) (fun _ i _ => n - (intOf i).toNat)
   case atStart => exact ⟨0, [], Nat.zero_le _, rfl, rfl, rfl, by simp, Own.nil _ _ _, Below.refl _ _⟩
   case round =>
    obtain ⟨k, os, hk, rfl, hos, hom, hall, howo, hb⟩ := hrel
    have HALL := Lib.hid hall; have HOM := Lib.hid hom
    clear hall hom
    by_cases h1 : k < n
    ·obtain ⟨t, hx⟩ : ∃ t, ts[k]? = some t := ⟨_, List.getElem?_eq_getElem (by rw [HL.out]; exact h1)⟩
     have hnx := stimes_snoc (g := g) hx
     rw [← hos] at hnx
     obtain ⟨b, off, rfl, hbB, f1⟩ := int_at hr hx
     have g1 := (hb.cell (p := ⟨b, off + k, none⟩) hbB).trans f1
     have hbw : b < wr.heap.size := Nat.lt_of_lt_of_le hbB hb.size
     have d1 : decide ((k : Int) < (n : Int)) = true := by simp; omega
     have d1' : decide (k < n) = true := by simp [h1]
     have i1 : (0 : Int) ≤ (k : Int) := by omega
     have i2 : (k : Int) < (n : Int) := by omega
     have e1 : IntKind.i64.wrap ((k : Int) + 1) = (k : Int) + 1 := IntWalk.i64_in _ (by omega)
     have hcheck2 := fun W => scheck_any t g W
     by_cases ht : sck t g = 0
     ·obtain ⟨-, -, k3, k4⟩ := sck_zero ht
      rw [ht] at hcheck2
      have e3 : IntKind.i64.wrap (t + g) = t + g := IntWalk.i64_in _ (by omega)
      have hnall := all_succ HALL.out hx ht
      have HC2 := Lib.hid hcheck2; have HNX := Lib.hid hnx; have HNA := Lib.hid hnall
      clear hcheck2 ht hx f1 hos hnall hnx
      go_wp2_with fail
      go_at_call 89
      refine (HC2.out _).mono ?_
      rintro r w5 ⟨rfl, rfl⟩
      go_wp2_with (at_builtin; refine wpList_append_elem rfl _ _ 108 rfl w.heap.size 59 i0 (.agg #[.int .i64 0, .int .i64 0]) 2 16 Tryz.underlying108 hi0 hz0 hz1 hz2 rfl (by decide) senc senc_len _ os (t, t + g) rfl (howo.alloc (.cells #[.int .i64 t, .int .i64 (t + g)] 59)) ⟨wr.heap.size, 0, none⟩ 1 rfl (by intro j u hj; exact sp_new _ (t, t + g) 59 wr.heap.size rfl j u (by simpa using hj)) (by have := senc_one [(t, t + g)]; simpa using this) (by unfold maxLen; have := HOM.out; omega) (by have := HOM.out; omega) (by have h2 := hb.size; rw [World.size_alloc]; omega) ?_; intro v' w7 own7 hgr7 hbel)
      have hb7 : Below w.heap.size w w7 := (hb.alloc hb.size _).trans hbel
      clear hgr7 hbel
      go_wp2
      go_roundw
      case rel => exact ⟨k + 1, os ++ [(t, t + g)], by omega, by go_num, by rw [HNX.out], by have := HOM.out; simp; omega, HNA.out, own7, hb7⟩
      case measure => simp [intOf]; omega
     ·rw [HG.out t ht] at hcheck2
      have hs2 : sof ts g = ([], 16) := by rw [HS.out, if_neg (fun h => ht (h t (List.mem_iff_getElem?.2 ⟨k, hx⟩)))]
      have HC2 := Lib.hid hcheck2; have HS2 := Lib.hid hs2
      clear hcheck2 ht hx f1 hos hnx hs2
      go_wp2_with fail
      go_at_call 89
      refine (HC2.out _).mono ?_
      rintro r w5 ⟨rfl, rfl⟩
      go_wp2
      go_ret2
      rw [HS2.out]
      exact ⟨.slice none 0 0, rfl, Own.nil _ _ _, hb⟩
    ·have d1 : decide ((k : Int) < (n : Int)) = false := by simp; omega
     have d1' : decide (k < n) = false := by simp [h1]
     obtain rfl : k = n := by omega
     have htake : ts.take k = ts := List.take_of_length_le (by rw [HL.out]; exact Nat.le_refl _)
     have hall : ∀ t ∈ ts, sck t g = 0 := by have := HALL.out; rwa [htake] at this
     have hs2 : sof ts g = (canon os, 0) := by rw [HS.out, if_pos hall, hos, htake]
     have hmg := fun (A' : Option Addr) (c' : Nat) W (hz' : A' = none → c' = 0) (h : Rd senc 2 W W.heap.size A' os) => smerged_any A' c' k os W HOM.out hz' (by omega) (by rw [hos]; exact stimes_ok k1) h
     have HS2 := Lib.hid hs2; have HMG := Lib.hid hmg
     obtain ⟨A7, c7, rfl, -, z7⟩ := own_shape_z howo HOM.out
     have HZ := Lib.hid z7
     clear htake hall hs2 hmg hos z7
     go_wp2_with fail
     go_at_call 90
     refine (HMG.out A7 c7 wr HZ.out (Own.rd senc_len howo)).mono ?_
     rintro r w8 ⟨v8, rfl, own8, hb8⟩
     go_wp2
     go_ret2
     rw [HS2.out]
     exact ⟨_, rfl, own8.mono hb.size, hb.trans (hb8.mono hb.size)⟩
 ·have e2 : (K != 0) = true := by simp [hk]
  have hs : sof ts g = ([], K) := by unfold sof; rw [← hK, if_pos hk]
  have HS := Lib.hid hs
  clear hs hln hK hk
  go_enter Tryz.func55, Tryz.ntmps55
  go_wp2_with fail
  go_at_call 89
  refine (HC.out _).mono ?_
  rintro r w1 ⟨rfl, rfl⟩
  go_wp2
  go_ret2
  rw [HS.out]
  exact ⟨.slice none 0 0, rfl, Own.nil _ _ _, Below.refl _ _⟩
end Go.Proofs.YtnljihjhmgpcoaaGreat
