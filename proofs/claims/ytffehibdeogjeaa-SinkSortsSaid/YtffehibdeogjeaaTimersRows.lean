/- The contracts of the timers' functions that copy and exchange (chapter 18): room, swapped. Condition: lists of at most 2^40 timers. -/
import Derived.Test.YtffehibdeogjeaaTimersRef
import Derived.BigRegion
import Derived.Laws.MakeOwn
namespace Go.Proofs.Ytffehibdeogjeaa
open Go.RowKit

theorem tm_info : (Try.prog.info? 34).map (fun i => (i.zero, i.size, i.bytes)) = some (some (.agg #[.int .i64 0, .int .i64 0, .int .i64 0]), 3, 24) := by kernel_rfl
theorem tenc_len (x : Tm) : (tenc x).length = 3 := rfl
theorem tenc_one (l : List Tm) : ∀ u ∈ l.flatMap tenc, u.oneCell' = true := by
  intro u hu
  obtain ⟨x, _, hx⟩ := List.mem_flatMap.1 hu
  simp [tenc] at hx
  rcases hx with rfl | rfl | rfl <;> rfl
/-- A slice that reads gives its cells, all of them. -/
theorem rd_flat {α : Type} {enc : α → List Value} {sz : Nat} {w : World} {B : Nat} {b off : Nat} {l : List α} (henc : ∀ x, (enc x).length = sz) (h : Rd enc sz w B (some ⟨b, off, none⟩) l) :
    ∀ j u, (l.flatMap enc)[j]? = some u → w.cell? ((⟨b, off, none⟩ : Addr).add j) = some u := by
  intro j u hj
  have hlen : j < l.length * sz := by rw [← flat_length henc]; exact (List.getElem?_eq_some_iff.1 hj).1
  have hsz : 0 < sz := by
    rcases Nat.eq_zero_or_pos sz with h0 | h0
    · subst h0; simp at hlen
    · exact h0
  have hk : j / sz < l.length := Nat.div_lt_of_lt_mul (by rw [Nat.mul_comm]; exact hlen)
  obtain ⟨x, hx⟩ : ∃ x, l[j / sz]? = some x := ⟨_, List.getElem?_eq_getElem hk⟩
  obtain ⟨b', off', e, _, hc⟩ := h.at_ hx
  simp only [Option.some.injEq, Addr.mk.injEq, and_true] at e
  obtain ⟨rfl, rfl⟩ := e
  have hmod := Nat.mod_lt j hsz
  have hje : j / sz * sz + j % sz = j := by rw [Nat.mul_comm]; exact Nat.div_add_mod j sz
  have hu : (enc x)[j % sz]? = some u := by
    obtain ⟨v, hv⟩ : ∃ v, (enc x)[j % sz]? = some v := ⟨_, List.getElem?_eq_getElem (by rw [henc]; exact hmod)⟩
    have := flat_at henc l (j / sz) (j % sz) x v hx hv
    rw [hje, hj] at this
    rw [hv, this]
  have := hc (j % sz) u hu
  rw [Nat.add_assoc, hje] at this
  rw [← this]
  congr 1
  unfold Addr.add; split <;> simp_all

/-- make with a length and a capacity. -/
theorem wpList_make_part {P : Program} (w : World) {ops : Array Oper} {rest : List Oper} {o : Oper} {a : Act} {Q : Exit → Act → World → Prop}
    (hg : o.guard = none) (l c : Operand) (t : TypeId) (hop : o.op = Op.makeSlice t l c)
    (e : TypeId) (i : TypeInfo) (z : Value) (h1 : P.underlying t = some (.slice e)) (h2 : P.info? e = some i) (h3 : i.zero = some z)
    (kl kc : IntKind) (n m : Nat) (hl : a.eval l = .int kl (n : Int)) (hc : a.eval c = .int kc (m : Int)) (hnm : n ≤ m) (b2 : i.bytes * m ≤ 281474976710656) (b3 : m ≤ maxLen)
    (hK : wpList P ops Q rest (a.put o.dst (.slice (some ⟨w.heap.size, 0, none⟩) n m)) (w.alloc (.cells (madeCells z.cells (m * i.size)) e))) :
    wpList P ops Q (o :: rest) a w := by
  refine wpList_plain hg fun K hK' => ?_
  have hb : (i.bytes : Int) * (m : Int) ≤ 281474976710656 := by
    have h : ((i.bytes * m : Nat) : Int) ≤ 281474976710656 := by omega
    rwa [Int.natCast_mul] at h
  have hr := run_make (P := P) w t e i z h1 h2 h3 kl kc n m (by omega) (by omega) hb (by unfold maxLen at b3; omega)
  simp only [Int.toNat_natCast] at hr
  unfold Oper.wp
  simp [execOp, hop, hl, hc, hr, Result.andThen]
  exact hK' _ _ hK
/-- copy into a row that lies whole. -/
theorem wpList_copy_cells {P : Program} {w : World} {ops : Array Oper} {rest : List Oper} {o : Oper} {a : Act} {Q : Exit → Act → World → Prop} (hgd : o.guard = none) (d s : Operand) (dT sT : TypeId)
    (ho : o.op = .call { callee := .builtin .copy, args := #[d, s], argTypes := #[dT, sT] }) (elem : TypeId) (hu : P.underlying dT = some (.slice elem)) (size : Nat) (hsz : (P.info? elem).map (·.size) = some size)
    (g dLen dCap : Nat) (ad : Addr) (sLen sCap : Nat) (hd : a.eval d = .slice (some ⟨g, 0, none⟩) dLen dCap) (hs : a.eval s = .slice (some ad) sLen sCap)
    (cur : Array Value) (t : TypeId) (hg : w.heap[g]? = some (.cells cur t (0, 0))) (cs : List Value) (hn : cs.length = Nat.min sLen dLen * size)
    (hsrc : ∀ j v, cs[j]? = some v → w.cell? (ad.add j) = some v) (hfit : cs.length ≤ cur.size) (h1 : ∀ v ∈ cs, v.oneCell' = true)
    (h : ∀ w', Hid (w' = w.setRow g (cs ++ cur.toList.drop cs.length).toArray) → wpList P ops Q rest (a.put o.dst (goInt (Nat.min sLen dLen : Nat))) w') : wpList P ops Q (o :: rest) a w := by
  refine wpList_plain hgd fun K hK => ?_
  have hrun := run_copy_cells (P := P) w dT sT o.type elem g dLen dCap ad sLen sCap cur t cs size hu hsz hg hn hsrc hfit h1
  unfold Oper.wp
  simp [execOp, ho, resolve, invoke, builtin, hd, hs, hrun, Result.andThen]
  exact hK _ _ (h _ rfl)

theorem below_setRow {base : Nat} {w w1 : World} (h : Below base w w1) {g : Nat} (hg : base ≤ g) (cs : Array Value) : Below base w (w1.setRow g cs) :=
  h.trans ⟨rfl, rfl, rfl, by simp [World.setRow], fun k hk => by simp [World.setRow, Array.getElem?_modify]; intro e; omega⟩
/-- A row that has been made and copied into. -/
theorem own_copied {α : Type} {enc : α → List Value} {sz : Nat} (henc : ∀ x, (enc x).length = sz) (w : World) (base : Nat) (e : TypeId) (l : List α) (cur : Array Value) (g m : Nat) (hg : w.heap[g]? = some (.cells cur e (0, 0))) (hb : base ≤ g)
    (hc : cur.size = m * sz) (hlm : l.length ≤ m) (hm : m ≤ maxLen) :
    Own enc sz (w.setRow g (l.flatMap enc ++ cur.toList.drop (l.flatMap enc).length).toArray) base e (.slice (some ⟨g, 0, none⟩) l.length m) l := by
  have hf := flat_length henc l
  have hle : l.length * sz ≤ m * sz := Nat.mul_le_mul_right sz hlm
  refine ⟨hf, .inr ⟨g, m, _, rfl, hb, setRow_heap w g cur _ e (0, 0) hg, hlm, hm, ?_, ?_⟩⟩
  · simp [hf, hc]; omega
  · rw [List.take_left' (by rw [hf])]
theorem wpList_copy_none {P : Program} {w : World} {ops : Array Oper} {rest : List Oper} {o : Oper} {a : Act} {Q : Exit → Act → World → Prop} (hgd : o.guard = none) (d s : Operand) (dT sT : TypeId)
    (ho : o.op = .call { callee := .builtin .copy, args := #[d, s], argTypes := #[dT, sT] }) (elem : TypeId) (hu : P.underlying dT = some (.slice elem)) (size : Nat) (hsz : (P.info? elem).map (·.size) = some size)
    (g dLen dCap sCap : Nat) (hd : a.eval d = .slice (some ⟨g, 0, none⟩) dLen dCap) (hs : a.eval s = .slice none 0 sCap)
    (h : wpList P ops Q rest (a.put o.dst (.int .i64 0)) w) : wpList P ops Q (o :: rest) a w := by
  refine wpList_plain hgd fun K hK => ?_
  cases hq : P.info? elem with
  | none => simp [hq] at hsz
  | some i =>
    unfold Oper.wp
    simp [execOp, ho, resolve, invoke, builtin, hd, hs, Builtin.copy_, run_underlying hu, Builtin.lenOf, Builtin.firstCells, sizeOf, typeInfo, hq, storeCells, Result.andThen]
    exact hK _ _ h

set_option maxHeartbeats 2000000 in
set_option maxRecDepth 100000 in
theorem room_any (A : Option Addr) (c : Nat) (l : List Tm) (w : World) (hn : l.length ≤ 1099511627776) (hr : Rd tenc 3 w w.heap.size A l) :
    Calls Try.prog 72 #[.slice A l.length c] w fun e w' => ∃ g, e = .returned (.slice (some ⟨g, 0, none⟩) l.length (l.length + 1)) ∧ Own tenc 3 w' w.heap.size 34 (.slice (some ⟨g, 0, none⟩) l.length (l.length + 1)) l ∧ Below w.heap.size w w' := by
  obtain ⟨i0, hi0, hz0, hz1, hz2⟩ := info_parts tm_info
  obtain ⟨n, hn'⟩ : ∃ n, n = l.length := ⟨_, rfl⟩
  rw [← hn'] at hn ⊢
  have HN := Lib.hid hn'
  clear hn'
  cases A with
  | none =>
    have hl : l = [] := by
      rcases List.eq_nil_or_concat l with h | ⟨l', x, h⟩
      · exact h
      · obtain ⟨_, _, e, _⟩ := hr (by rw [h]; simp)
        cases e
    obtain rfl : n = 0 := by rw [HN.out, hl]; rfl
    subst hl
    go_enter Try.func72, Try.ntmps72
    go_wp2_with (first
      | (at_make; refine wpList_make_part _ rfl _ _ _ rfl 34 i0 (.agg #[.int .i64 0, .int .i64 0, .int .i64 0]) Try.underlying22 hi0 hz0 .i64 .i64 0 1 rfl rfl (by omega) (by rw [hz2]; omega) (by unfold maxLen; omega) ?_; rw [hz1])
      | (with_reducible refine wpList_copy_none rfl (.tmp 10) (.tmp 11) 22 22 rfl 34 Try.underlying22 3 (by rw [hi0]; simp [hz1]) w.heap.size 0 1 c rfl rfl ?_))
    go_ret
    refine ⟨w.heap.size, rfl, ?_, (by repeat (first | exact Below.refl _ _ | assumption | (with_reducible exact Env.below (by assumption)) | (with_reducible refine below_new ?_ _) | (with_reducible refine below_drew ?_) | (with_reducible refine below_drewN ?_ _) | (with_reducible refine below_put ?_ ?_ _; rotate_left 1; (dsimp only; omega)) | (refine below_then ?_ (by assumption))))⟩
    exact ⟨rfl, .inr ⟨w.heap.size, 1, _, rfl, Nat.le_refl _, heap_alloc_new w _, by simp, by simp [maxLen], by rw [size_madeCells], by simp⟩⟩
  | some ad =>
    have hflat : ∀ j u, (l.flatMap tenc)[j]? = some u → (w.alloc (.cells (madeCells #[.int .i64 0, .int .i64 0, .int .i64 0] ((n + 1) * 3)) 34)).cell? (ad.add j) = some u := by
      intro j u hj
      have hl : l ≠ [] := by rintro rfl; simp at hj
      obtain ⟨b, off, e, hb, _⟩ := hr hl
      injection e with e; subst e
      exact (Below.cell (p := (⟨b, off, none⟩ : Addr).add j) ((Below.refl w.heap.size w).alloc (Nat.le_refl _) _) (by unfold Addr.add; split <;> simpa using hb)).trans (rd_flat tenc_len hr j u hj)
    have hfl := flat_length tenc_len l
    have HF := Lib.hid hflat
    have HL := Lib.hid hfl
    clear hflat hfl
    go_enter Try.func72, Try.ntmps72
    go_wp2_with (first
      | (at_make; refine wpList_make_part _ rfl _ _ _ rfl 34 i0 (.agg #[.int .i64 0, .int .i64 0, .int .i64 0]) Try.underlying22 hi0 hz0 .i64 .i64 n (n + 1) rfl rfl (by omega) (by rw [hz2]; omega) (by unfold maxLen; omega) ?_; rw [hz1])
      | (with_reducible refine wpList_copy_cells rfl (.tmp 10) (.tmp 11) 22 22 rfl 34 Try.underlying22 3 (by rw [hi0]; simp [hz1]) w.heap.size n (n + 1) ad n c rfl rfl _ 34 (heap_alloc_new w _) (l.flatMap tenc) (by rw [HL.out, ← HN.out, show Nat.min n n = n from Nat.min_self n]) HF.out (by rw [HL.out, size_madeCells, ← HN.out]; omega) (tenc_one l) ?_; intro w1 hw1))
    go_ret
    refine ⟨w.heap.size, rfl, ?_, by rw [hw1.out]; exact below_setRow (by repeat (first | exact Below.refl _ _ | assumption | (with_reducible exact Env.below (by assumption)) | (with_reducible refine below_new ?_ _) | (with_reducible refine below_drew ?_) | (with_reducible refine below_drewN ?_ _) | (with_reducible refine below_put ?_ ?_ _; rotate_left 1; (dsimp only; omega)) | (refine below_then ?_ (by assumption)))) (Nat.le_refl _) _⟩
    have := own_copied (enc := tenc) (sz := 3) tenc_len (w.alloc (.cells (madeCells #[.int .i64 0, .int .i64 0, .int .i64 0] ((n + 1) * 3)) 34)) w.heap.size 34 l _ w.heap.size (n + 1) (heap_alloc_new w _) (Nat.le_refl _) (size_madeCells _ _) (by rw [← HN.out]; omega) (by unfold maxLen; omega)
    rw [← HN.out] at this
    rw [hw1.out]
    exact this
end Go.Proofs.Ytffehibdeogjeaa
