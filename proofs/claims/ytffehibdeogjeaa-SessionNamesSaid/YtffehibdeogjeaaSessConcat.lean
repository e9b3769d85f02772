/- The contracts of slices.Grow and Concat at spans (chapter 15). Condition: at most 2^40 spans. -/
import Derived.Test.YtffehibdeogjeaaSessCanon
import Derived.Lib.AppendZeros
namespace Go.Proofs.Ytffehibdeogjeaa
open Go.RowKit

set_option maxHeartbeats 2000000 in
set_option maxRecDepth 100000 in
theorem sgrow_any (n : Nat) (w : World) (hn : n ≤ 1099511627776) :
    Calls Try.prog 129 #[.slice none 0 0, .int .i64 n] w fun e w' => ∃ v, e = .returned v ∧ Own senc 2 w' w.heap.size 32 v [] ∧ Below w.heap.size w w' := by
  obtain ⟨i0, hi0, hz0, hz1, hz2⟩ := info_parts sp_info
  have b0 : decide ((n : Int) < 0) = false := by simp
  have e1 : IntKind.i64.wrap ((n : Int) - 0) = (n : Int) := by rw [Int.sub_zero]; exact IntWalk.i64_in _ (by omega)
  rcases Nat.eq_zero_or_pos n with rfl | hpos
  · go_enter Try.func129, Try.ntmps129
    go_wp2
    go_ret
    exact ⟨_, rfl, Own.nil _ _ _, Below.refl _ _⟩
  · have b1 : decide ((0 : Int) < (n : Int)) = true := by simp; omega
    have b1' : decide (0 < n) = true := by simp; omega
    have h := Lib.run_append_nil_zeros (P := Try.prog) w 103 3 103 32 i0 _ .i64 .i64 Try.underlying103 Try.underlying3 hi0 hz0 n hpos (by omega) (by omega) (by rw [hz2]; omega)
    have hG : n ≤ grownCap w n 0 32 := grownCap_ge w _ _ _
    have hG63 := grownCap_le_maxLen w n 0 32 (by unfold maxLen; omega)
    obtain ⟨G, hg⟩ : ∃ G, G = grownCap w n 0 32 := ⟨_, rfl⟩
    rw [← hg] at h hG hG63
    clear hg
    go_enter Try.func129, Try.ntmps129
    go_wp2_with (at_builtin; refine Lib.wpList_append_run _ rfl _ _ _ _ rfl _ _ rfl rfl _ _ h ?_)
    go_ret
    have hb : Below w.heap.size w (w.drew.alloc (.cells (Builtin.zeroCells #[Value.int .i64 0, Value.int .i64 0] n ++ Builtin.zeroCells #[Value.int .i64 0, Value.int .i64 0] (G - n)) 32)) := below_new (below_drew (Below.refl _ _)) _
    refine ⟨_, rfl, ⟨by simp, .inr ⟨w.heap.size, G, _, rfl, Nat.le_refl _, heap_alloc_new w.drew _, Nat.zero_le _, hG63, ?_, by simp⟩⟩, hb⟩
    rw [Array.size_append, size_zeroCells, size_zeroCells]
    simp
    omega

/-- A list appended to whatever row of the call's own. -/
theorem wpList_append_any {P : Program} {w : World} {ops : Array Oper} {rest : List Oper} {o : Oper} {a : Act} {Q : Exit → Act → World → Prop} (hwd : Region.wanted o (yielded ops a.tmps) = true) (s x : Operand) (t : TypeId)
    (ho : o.op = .call { callee := .builtin .append, args := #[s, x], argTypes := #[t, t] })
    (base : Nat) (e : TypeId) (i : TypeInfo) (z : Value) (size bytes : Nat) (ht : P.underlying t = some (.slice e)) (hi : P.info? e = some i) (hz : i.zero = some z)
    (hsize : i.size = size) (hby : i.bytes = bytes) (hzs : z.cells.size = size) (hsz : 0 < size)
    {α : Type} (enc : α → List Value) (henc : ∀ y, (enc y).length = size) (v : Value) (xs ys : List α) (hs : a.eval s = v) (hown : Own enc size w base e v xs)
    (A : Option Addr) (n c : Nat) (hx : a.eval x = .slice A n c) (hnl : ys.length = n) (hc : A = none → c = 0) (hrd : Rd enc size w w.heap.size A ys) (h1 : ∀ u ∈ ys.flatMap enc, u.oneCell' = true)
    (h63 : xs.length + n ≤ maxLen) (hbytes : (xs.length + n) * bytes ≤ 140737488355328) (hbase : base ≤ w.heap.size)
    (h : ∀ v' w', Own enc size w' base e v' (xs ++ ys) → Below base w w' → wpList P ops Q rest (a.put o.dst v') w') : wpList P ops Q (o :: rest) a w := by
  refine BigFrame.wpList_want hwd fun K hK => ?_
  cases A with
  | none =>
    obtain rfl := hc rfl
    obtain rfl := rd_none hrd
    obtain rfl : n = 0 := hnl.symm
    have hrun := run_append_owned_none (P := P) (w := w) base t o.type e i size ht hi _ xs.length (xs.flatMap enc) hown
    unfold Oper.wp
    simp [execOp, ho, resolve, invoke, builtin, hs, hx, hrun, Result.andThen]
    exact hK _ _ (h _ _ (by simpa using hown) (Below.refl _ _))
  | some ad =>
    have hnews : ∀ j u, (ys.flatMap enc)[j]? = some u → w.cell? (ad.add j) = some u := fun j u hj => by
      by_cases hy : ys = []
      · subst hy; simp at hj
      · obtain ⟨b, off, e, _, _⟩ := hrd hy
        simp only [Option.some.injEq] at e
        subst e
        exact rd_flat henc hrd j u hj
    obtain ⟨v', w', hrun, r1, r2, r3⟩ := run_append_own (P := P) w base t o.type e i z size bytes ht hi hz hsize hby hzs hsz _ xs.length (xs.flatMap enc) hown ad n c (ys.flatMap enc) (by rw [flat_length henc, hnl]) hnews h1 h63 hbytes hbase
    have hown' : Own enc size w' base e v' (xs ++ ys) := by unfold Own; simpa [hnl] using r1
    unfold Oper.wp
    simp [execOp, ho, resolve, invoke, builtin, hs, hx, hrun, Result.andThen]
    exact hK _ _ (h _ _ hown' (below_of_grown r2 (fun k hk => (World.ownsRow.lt hown k hk).1) hbase))

set_option maxHeartbeats 4000000 in
set_option maxRecDepth 100000 in
theorem sconcat_any (A1 A2 : Option Addr) (c1 c2 n1 n2 : Nat) (l1 l2 : List (Int × Int)) (w : World) (b : Nat) (hb : b < w.heap.size) (f1 : w.cell? ⟨b, 0, none⟩ = some (.slice A1 n1 c1)) (f2 : w.cell? ⟨b, 1, none⟩ = some (.slice A2 n2 c2))
    (hl1 : l1.length = n1) (hl2 : l2.length = n2) (z1 : A1 = none → c1 = 0) (z2 : A2 = none → c2 = 0) (hn1 : n1 ≤ 549755813888) (hn2 : n2 ≤ 549755813888) (hr1 : Rd senc 2 w w.heap.size A1 l1) (hr2 : Rd senc 2 w w.heap.size A2 l2) :
    Calls Try.prog 101 #[.slice (some ⟨b, 0, none⟩) 2 2] w fun e w' => ∃ v, e = .returned v ∧ Own senc 2 w' w.heap.size 32 v (l1 ++ l2) ∧ Below w.heap.size w w' := by
  obtain ⟨i0, hi0, hz0, hz1, hz2⟩ := info_parts sp_info
  have HL1 := Lib.hid hl1; have HL2 := Lib.hid hl2; have HZ1 := Lib.hid z1; have HZ2 := Lib.hid z2
  clear hl1 hl2 z1 z2
  have e1 : IntKind.i64.wrap ((n1 : Int) + (n2 : Int)) = (n1 : Int) + (n2 : Int) := IntWalk.i64_in _ (by omega)
  have e2 : IntKind.i64.wrap (0 + (n1 : Int)) = (n1 : Int) := by rw [Int.zero_add]; exact IntWalk.i64_in _ (by omega)
  have b1 : decide ((n1 : Int) < 0) = false := by simp
  have b2 : decide ((n1 : Int) + (n2 : Int) < 0) = false := by simp; omega
  go_enter Try.func101, Try.ntmps101
  go_wp2_with fail
  go_loopw [3, 11] (fun s i wr => w = wr ∧ ((s = .int .i64 0 ∧ i = .int .i64 0) ∨ (s = .int .i64 n1 ∧ i = .int .i64 1) ∨ (s = .int .i64 ((n1 : Int) + (n2 : Int)) ∧ i = .int .i64 2))) (fun _ i _ => 2 - (intOf i).toNat)
  case atStart => exact ⟨rfl, .inl ⟨rfl, rfl⟩⟩
  case round =>
    obtain ⟨rfl, ⟨rfl, rfl⟩ | ⟨rfl, rfl⟩ | ⟨rfl, rfl⟩⟩ := hrel
    · go_wp2
      go_roundw
      case rel => exact ⟨trivial, .inr (.inl ⟨rfl, rfl⟩)⟩
      case measure => simp [intOf]
    · go_wp2
      go_roundw
      case rel => exact ⟨trivial, .inr (.inr ⟨rfl, rfl⟩)⟩
      case measure => simp [intOf]
    · go_wp2_with fail
      go_at_call 129
      have hg := sgrow_any (n1 + n2) w (by omega)
      rw [Int.natCast_add] at hg
      refine hg.mono ?_
      rintro r w3 ⟨v3, rfl, own3, hb3⟩
      clear hg
      go_wp2_with fail
      go_loopw [6, 27] (fun o i wr => ∃ os : List (Int × Int), ((i = .int .i64 0 ∧ os = []) ∨ (i = .int .i64 1 ∧ os = l1) ∨ (i = .int .i64 2 ∧ os = l1 ++ l2)) ∧ Own senc 2 wr w.heap.size 32 o os ∧ Below w.heap.size w wr) (fun _ i _ => 2 - (intOf i).toNat)
      case atStart => exact ⟨[], .inl ⟨rfl, rfl⟩, own3, hb3⟩
      case round =>
        obtain ⟨os, hor, howo, hbr⟩ := hrel
        have g1 := (hbr.cell (p := ⟨b, 0, none⟩) hb).trans f1
        have g2 := (hbr.cell (p := ⟨b, 1, none⟩) hb).trans f2
        have hbw : b < wr.heap.size := Nat.lt_of_lt_of_le hb hbr.size
        obtain ⟨rfl, hos⟩ | ⟨rfl, hos⟩ | ⟨rfl, hos⟩ := hor
        · subst hos
          go_wp2_with (at_builtin; refine wpList_append_any rfl _ _ 103 rfl w.heap.size 32 i0 (.agg #[.int .i64 0, .int .i64 0]) 2 16 Try.underlying103 hi0 hz0 hz1 hz2 rfl (by decide) senc senc_len _ [] l1 rfl howo A1 n1 c1 rfl HL1.out HZ1.out ((hr1.below hbr).more hbr.size) (senc_one _) (by unfold maxLen; simp; omega) (by simp; omega) hbr.size ?_; intro v' w7 own7 hbel)
          have hb7 : Below w.heap.size w w7 := hbr.trans hbel
          clear hbel
          go_wp2
          go_roundw
          case rel => exact ⟨l1, .inr (.inl ⟨rfl, rfl⟩), own7, hb7⟩
          case measure => simp [intOf]
        · subst hos
          go_wp2_with (at_builtin; refine wpList_append_any rfl _ _ 103 rfl w.heap.size 32 i0 (.agg #[.int .i64 0, .int .i64 0]) 2 16 Try.underlying103 hi0 hz0 hz1 hz2 rfl (by decide) senc senc_len _ os l2 rfl howo A2 n2 c2 rfl HL2.out HZ2.out ((hr2.below hbr).more hbr.size) (senc_one _) (by unfold maxLen; have := HL1.out; omega) (by have := HL1.out; omega) hbr.size ?_; intro v' w7 own7 hbel)
          have hb7 : Below w.heap.size w w7 := hbr.trans hbel
          clear hbel
          go_wp2
          go_roundw
          case rel => exact ⟨os ++ l2, .inr (.inr ⟨rfl, rfl⟩), own7, hb7⟩
          case measure => simp [intOf]
        · have HOS := Lib.hid hos
          clear hos
          go_wp2
          go_ret
          exact ⟨_, rfl, by rw [← HOS.out]; exact howo, hbr⟩
end Go.Proofs.Ytffehibdeogjeaa
