/- The contracts of the panes of a window (chapter 19): slices.Index and Contains over spans, Parts. Condition: numbers within their types. -/
import Derived.Test.YtbbdepeifdbbdaaPaneSize
import Derived.Test.YtbbdepeifdbbdaaStoreInv
import Derived.Test.YtbbdepeifdbbdaaKitB
import Derived.Test.YtbbdepeifdbbdaaKitA
import Derived.Test.YtbbdepeifdbbdaaKitD
namespace Go.Proofs.Ytbbdepeifdbbdaa
open Go.RowKit

theorem eql_span_not {a b c d : Int} (h : ¬ (a = c ∧ b = d)) (w : World) : (binOp .eql 38 (.agg #[.int .i64 a, .int .i64 b]) (.agg #[.int .i64 c, .int .i64 d])).run Try.prog w = .ok (.bool false) w := by
  go_simp
  intro h1 h2
  exact h ⟨h1, h2⟩
theorem eql_span_yes (a b : Int) (w : World) : (binOp .eql 38 (.agg #[.int .i64 a, .int .i64 b]) (.agg #[.int .i64 a, .int .i64 b])).run Try.prog w = .ok (.bool true) w := by
  go_simp
set_option maxHeartbeats 4000000 in
theorem spindex_any (A : Option Addr) (c n : Nat) (l : List (Int × Int)) (x y : Int) (w : World) (hn : l.length = n) (hb : n ≤ 1099511627776) (hr : Rd senc 2 w w.heap.size A l) :
    Calls Try.prog 90 #[.slice A n c, .agg #[.int .i64 x, .int .i64 y]] w fun e w' => ∃ r : Int, e = .returned (.int .i64 r) ∧ ((x, y) ∈ l → 0 ≤ r) ∧ ((x, y) ∉ l → r = -1) ∧ Below w.heap.size w w' := by
  have HN := Lib.hid hn
  clear hn
  have hl0 : Loc (w.alloc (.cells #[.int .i64 x, .int .i64 y] 38)) [(w.heap.size, [.int .i64 x, .int .i64 y])] := (Loc.nil w).new [.int .i64 x, .int .i64 y] 38
  go_enter Try.func90, Try.ntmps90
  go_wp2_with fail
  go_loopw [8] (fun iv wr => ∃ (k : Nat), iv = .int .i64 k ∧ k ≤ n ∧ (x, y) ∉ l.take k ∧ Loc wr [(w.heap.size, [.int .i64 x, .int .i64 y])] ∧ Below w.heap.size w wr) (fun iv _ => n - (intOf iv).toNat)
  case atStart => exact ⟨0, rfl, Nat.zero_le _, by simp, hl0, below_new (Below.refl _ _) _⟩
  case round =>
    clear hl0
    obtain ⟨k, rfl, hk, hno, hl, hbw⟩ := hrel
    have HNO := Lib.hid hno
    have hF := hl
    (repeat unfold Loc at hF)
    by_cases hlt : k < n
    · obtain ⟨⟨p, q⟩, hp⟩ : ∃ p, l[k]? = some p := ⟨_, List.getElem?_eq_getElem (by rw [HN.out]; exact hlt)⟩
      have hpm := List.mem_of_getElem? hp
      have hnx : ¬ (x = p ∧ y = q) → (x, y) ∉ l.take (k + 1) := fun h hm => by
        rw [List.take_add_one, hp] at hm
        rcases List.mem_append.1 hm with hm | hm
        · exact HNO.out hm
        · simp at hm; exact h hm
      obtain ⟨b, off, rfl, hbb, f0, f1⟩ := span_cells (rd_grown hr hbw) hp
      simp only at f0 f1
      have d1 : decide ((k : Int) < (n : Int)) = true := by simp; omega
      have d1' : decide (k < n) = true := by simp [hlt]
      have k1 : (0 : Int) ≤ (k : Int) := by omega
      have k2 : (k : Int) < (n : Int) := by omega
      have e1 : IntKind.i64.wrap ((k : Int) + 1) = (k : Int) + 1 := IntWalk.i64_in _ (by omega)
      have HPM := Lib.hid hpm
      clear hno hp hlt hpm
      by_cases hxy : x = p ∧ y = q
      · obtain ⟨rfl, rfl⟩ := hxy
        have heq := eql_span_yes x y
        clear hnx
        go_wp2_with fail
        go_quiet (fail)
        go_wp2
        go_ret
        exact ⟨(k : Int), rfl, fun _ => by omega, fun h => absurd HPM.out h, below_drewN hbw _⟩
      · have heq := eql_span_not hxy
        have HNX := Lib.hid (hnx hxy)
        clear hnx hxy
        go_wp2_with fail
        go_quiet (fail)
        go_wp2
        go_roundw
        case rel => exact ⟨k + 1, by go_num, by omega, HNX.out, hl.below (below_drewN (Below.refl _ _) _), below_drewN hbw _⟩
        case measure => simp [intOf]; omega
    · obtain rfl : k = n := by omega
      have d1 : decide ((k : Int) < (k : Int)) = false := by simp
      have d1' : decide (k < k) = false := by simp
      rw [List.take_of_length_le (by rw [HN.out]; exact Nat.le_refl _)] at HNO
      clear hno hlt
      go_wp2
      go_ret
      exact ⟨-1, rfl, fun h => absurd h HNO.out, fun _ => rfl, hbw⟩
set_option maxHeartbeats 4000000 in
theorem spcontains_any (A : Option Addr) (c n : Nat) (l : List (Int × Int)) (x y : Int) (w : World) (hn : l.length = n) (hb : n ≤ 1099511627776) (hr : Rd senc 2 w w.heap.size A l) :
    Calls Try.prog 66 #[.slice A n c, .agg #[.int .i64 x, .int .i64 y]] w fun e w' => e = .returned (.bool (decide ((x, y) ∈ l))) ∧ Below w.heap.size w w' := by
  have hix := fun W (h : Rd senc 2 W W.heap.size A l) => spindex_any A c n l x y W hn hb h
  obtain ⟨D, hD⟩ : ∃ D, D = decide ((x, y) ∈ l) := ⟨_, rfl⟩
  rw [← hD]
  have HIX := Lib.hid hix; have HD := Lib.hid hD
  clear hix hD hn
  go_enter Try.func66, Try.ntmps66
  go_wp2_with fail
  go_at_call 90
  refine (HIX.out _ (rd_grown hr (below_new (Below.refl _ _) _))).mono ?_
  rintro r w2 ⟨k, rfl, h1, h2, hb2⟩
  have hres : decide (0 ≤ k) = D := by
    rw [HD.out]
    by_cases h : (x, y) ∈ l
    · simp [h, h1 h]
    · simp [h, h2 h]
  clear h1 h2
  go_wp2
  go_ret
  exact ⟨ret_bool (by first | exact hres | rfl), below_then (below_new (Below.refl _ _) _) hb2⟩
end Go.Proofs.Ytbbdepeifdbbdaa
