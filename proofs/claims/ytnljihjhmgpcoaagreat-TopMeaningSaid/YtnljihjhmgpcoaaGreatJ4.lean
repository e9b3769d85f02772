/- Lemmas and contracts for the statement, joined into one text: Open, Append, RowLaws, Cmp, Spans, SlideRef, SlideRef2, SlidePlain, SlidePlain2. The conditions of each stand at its head. -/
import Derived.Test.YtnljihjhmgpcoaaGreatJ3
import Derived.Deep.Slices
import Derived.Laws.CopyRow
import Derived.Test.YtnljihjhmgpcoaaGreatJ1
namespace Go.Proofs.YtnljihjhmgpcoaaGreat
open Go.RowKit Go.ChangeShapes Go.WideShapes Go.ChangeAt Go.Deep
/-- The cells of a type that are integers (their kind) or bools (none), by their offsets. -/
def leaves (P : Program) : Nat → TypeId → Option (List (Nat × Option IntKind))
 | 0, _ => none
 | n + 1, t => match P.underlying t with
  | some .bool => some [(0, none)]
  | some (.int k) => some [(0, some k)]
  | some (.struct fs) => fs.toList.foldr (fun f acc => match leaves P n f.type, acc with
    | some l, some r => some (l.map (fun x => (f.offset + x.1, x.2)) ++ r)
    | _, _ => none) (some [])
  | some (.array m e) => (List.range m).foldr (fun i acc => match leaves P n e, acc with
    | some l, some r => some (l.map (fun x => (i * P.cellsOf e + x.1, x.2)) ++ r)
    | _, _ => none) (some [])
  | _ => none
def leafFits (cs : List Value) (x : Nat × Option IntKind) : Prop := match x.2 with
 | none => ∃ b, cs[x.1]? = some (.bool b)
 | some k => ∃ n, cs[x.1]? = some (.int k n) ∧ (Lit.int k n).wf = true
theorem sub_at {cs : List Value} {o c j : Nat} {v : Value} (h : ((cs.drop o).take c)[j]? = some v) : cs[o + j]? = some v := by
 rw [List.getElem?_take] at h
 split at h
 ·rw [List.getElem?_drop] at h; exact h
 ·cases h
theorem leafFits_sub {cs : List Value} {o c : Nat} {x : Nat × Option IntKind} (h : leafFits ((cs.drop o).take c) x) : leafFits cs (o + x.1, x.2) := by
 obtain ⟨i, k⟩ := x
 cases k with
 | none => obtain ⟨b, hb⟩ := h; exact ⟨b, sub_at hb⟩
 | some k => obtain ⟨n, hn, hw⟩ := h; exact ⟨n, sub_at hn, hw⟩
section
variable {H : Type} {enc : TypeId × Value → H} {P : Program} {w : World} {base : Nat} {spare : Nat → Bool} {held : Bool}
theorem leaves_fit : ∀ (n : Nat) (t : TypeId) (L : List (Nat × Option IntKind)) (fuel : Nat) (cs : List Value) (x : DataW H × List MemPlace),
  leaves P n t = some L → DataW.trod enc P w base spare held fuel t cs = some x → ∀ y ∈ L, leafFits cs y
 | 0, _, _, _, _, _, hL, _ => by simp [leaves] at hL
 | n + 1, t, L, fuel, cs, x, hL, h => by
  unfold leaves at hL
  split at hL
  ·rename_i hu
   injection hL with hL; subst hL
   intro y hy
   rw [List.mem_singleton] at hy; subst hy
   cases fuel with
   | zero => simp [DataW.trod] at h
   | succ f =>
    unfold DataW.trod at h
    rw [hu] at h
    split at h <;> first | (rename_i e1 _; injection e1) | skip
    all_goals first | exact ⟨_, rfl⟩ | simp_all
  ·rename_i k hu
   injection hL with hL; subst hL
   intro y hy
   rw [List.mem_singleton] at hy; subst hy
   obtain ⟨m, rfl, _, hw⟩ := DataW.trod_int hu h
   exact ⟨m, rfl, hw⟩
  ·rename_i fs hu
   obtain ⟨xs, m, _, _, _, hlen, hf⟩ := DataW.trod_struct hu h
   have key : ∀ (l : List Field) (L : List (Nat × Option IntKind)), (∀ f ∈ l, ∃ y, DataW.trod enc P w base spare held m f.type ((cs.drop f.offset).take (P.cellsOf f.type)) = some y) →
     l.foldr (fun f acc => match leaves P n f.type, acc with
      | some l, some r => some (l.map (fun x => (f.offset + x.1, x.2)) ++ r)
      | _, _ => none) (some []) = some L → ∀ y ∈ L, leafFits cs y := by
    intro l
    induction l with
    | nil => intro L _ hL y hy; simp at hL; subst hL; cases hy
    | cons f l ih =>
     intro L hall hL y hy
     rw [List.foldr_cons] at hL
     split at hL
     ·rename_i lf r h1 h2
      injection hL with hL; subst hL
      rcases List.mem_append.1 hy with hy | hy
      ·obtain ⟨z, hz, rfl⟩ := List.mem_map.1 hy
       obtain ⟨q, hq⟩ := hall f (List.mem_cons_self)
       exact leafFits_sub (leaves_fit n f.type lf m _ q h1 hq z hz)
      ·exact ih r (fun g hg => hall g (List.mem_cons_of_mem _ hg)) h2 y hy
     ·cases hL
   refine key fs.toList L (fun f hf' => ?_) hL
   obtain ⟨i, hi, he⟩ := List.getElem_of_mem hf'
   have hi' : i < fs.size := by simpa using hi
   have hfi : fs[i]? = some f := by rw [Array.getElem?_eq_getElem hi']; simpa using he
   have := hf i f hfi
   rw [List.getElem?_eq_getElem (by omega)] at this
   exact ⟨_, this⟩
  ·rename_i k e hu
   obtain ⟨xs, m, _, _, _, hlen, hf⟩ := DataW.trod_array hu h
   have key : ∀ (l : List Nat) (L : List (Nat × Option IntKind)), (∀ i ∈ l, ∃ y, DataW.trod enc P w base spare held m e ((cs.drop (i * P.cellsOf e)).take (P.cellsOf e)) = some y) →
     l.foldr (fun i acc => match leaves P n e, acc with
      | some l, some r => some (l.map (fun x => (i * P.cellsOf e + x.1, x.2)) ++ r)
      | _, _ => none) (some []) = some L → ∀ y ∈ L, leafFits cs y := by
    intro l
    induction l with
    | nil => intro L _ hL y hy; simp at hL; subst hL; cases hy
    | cons f l ih =>
     intro L hall hL y hy
     rw [List.foldr_cons] at hL
     split at hL
     ·rename_i lf r h1 h2
      injection hL with hL; subst hL
      rcases List.mem_append.1 hy with hy | hy
      ·obtain ⟨z, hz, rfl⟩ := List.mem_map.1 hy
       obtain ⟨q, hq⟩ := hall f (List.mem_cons_self)
       exact leafFits_sub (leaves_fit n e lf m _ q h1 hq z hz)
      ·exact ih r (fun g hg => hall g (List.mem_cons_of_mem _ hg)) h2 y hy
     ·cases hL
   refine key (List.range k) L (fun i hi => ?_) hL
   have := hf i (List.mem_range.1 hi)
   rw [List.getElem?_eq_getElem (by rw [hlen]; exact List.mem_range.1 hi)] at this
   exact ⟨_, this⟩
  ·cases hL
/-- The cells of such a type, one by one. -/
def FitsL : List (Option IntKind) → List Value → Prop
 | [], vs => vs = []
 | some k :: ks, vs => ∃ n vs', vs = .int k n :: vs' ∧ (Lit.int k n).wf = true ∧ FitsL ks vs'
 | none :: ks, vs => ∃ b vs', vs = .bool b :: vs' ∧ FitsL ks vs'
theorem fitsL_of : ∀ (ks : List (Option IntKind)) (vs : List Value), vs.length = ks.length → (∀ (i : Nat) (k : Option IntKind), ks[i]? = some k → leafFits vs (i, k)) → FitsL ks vs
 | [], vs, hl, _ => List.eq_nil_of_length_eq_zero hl
 | some k :: ks, [], hl, _ => by simp at hl
 | none :: ks, [], hl, _ => by simp at hl
 | some k :: ks, v :: vs, hl, h => by
  obtain ⟨n, hn, hw⟩ := h 0 (some k) rfl
  simp only [List.getElem?_cons_zero, Option.some.injEq] at hn
  exact ⟨n, vs, by rw [hn], hw, fitsL_of ks vs (by simpa using hl) fun i k' hk => by
   have := h (i + 1) k' (by simpa using hk)
   cases k' with
   | none => exact this
   | some k' => exact this⟩
 | none :: ks, v :: vs, hl, h => by
  obtain ⟨b, hb⟩ := h 0 none rfl
  simp only [List.getElem?_cons_zero, Option.some.injEq] at hb
  exact ⟨b, vs, by rw [hb], fitsL_of ks vs (by simpa using hl) fun i k' hk => by
   have := h (i + 1) k' (by simpa using hk)
   cases k' with
   | none => exact this
   | some k' => exact this⟩
theorem fits_cells {n : Nat} {t : TypeId} {ks : List (Option IntKind)} {fuel : Nat} {cs : List Value} {x : DataW H × List MemPlace}
  (hL : leaves P n t = some (ks.zipIdx.map fun y => (y.2, y.1))) (hl : cs.length = ks.length) (h : DataW.trod enc P w base spare held fuel t cs = some x) : FitsL ks cs :=
 fitsL_of ks cs hl fun i k hk => leaves_fit n t _ fuel cs x hL h (i, k) (List.mem_map.2 ⟨(k, i), by
  rw [List.mem_iff_getElem?]
  exact ⟨i, by simp [hk]⟩, rfl⟩)
theorem list_of {α β : Type} (P : β → α → Prop) : ∀ (rows : List β), (∀ r ∈ rows, ∃ x, P r x) → ∃ l : List α, l.length = rows.length ∧ ∀ (i : Nat) (r : β) (x : α), rows[i]? = some r → l[i]? = some x → P r x
 | [], _ => ⟨[], rfl, fun i r x h => by simp at h⟩
 | r :: rows, h => by
  obtain ⟨x, hx⟩ := h r (List.mem_cons_self)
  obtain ⟨l, hl, hP⟩ := list_of P rows fun r hr => h r (List.mem_cons_of_mem _ hr)
  refine ⟨x :: l, by simp [hl], fun i r' x' h1 h2 => ?_⟩
  cases i with
  | zero => simp at h1 h2; subst h1; subst h2; exact hx
  | succ i => exact hP i r' x' (by simpa using h1) (by simpa using h2)
end
end Go.Proofs.YtnljihjhmgpcoaaGreat
namespace Go.Proofs.YtnljihjhmgpcoaaGreat
open Go.RowKit
theorem below_of_grown {base : Nat} {w w' : World} {row : Option Nat} (hg : w.grownBy w' row) (hr : ∀ k, row = some k → base ≤ k) (hb : base ≤ w.heap.size) : Below base w w' :=
 (Below.refl base w).grown hg hb hr
theorem wpList_append_elem {P : Program} {w : World} {ops : Array Oper} {rest : List Oper} {o : Oper} {a : Act} {Q : Exit → Act → World → Prop} (hgd : o.guard = none) (s x : Operand) (t : TypeId)
  (ho : o.op = .call { callee := .builtin .append, args := #[s, x], argTypes := #[t, t] })
  (base : Nat) (e : TypeId) (i : TypeInfo) (z : Value) (size bytes : Nat) (ht : P.underlying t = some (.slice e)) (hi : P.info? e = some i) (hz : i.zero = some z)
  (hsize : i.size = size) (hby : i.bytes = bytes) (hzs : z.cells.size = size) (hsz : 0 < size)
  {α : Type} (enc : α → List Value) (henc : ∀ y, (enc y).length = size) (v : Value) (l : List α) (y : α) (hs : a.eval s = v) (hown : Own enc size w base e v l)
  (ad : Addr) (c : Nat) (hx : a.eval x = .slice (some ad) 1 c) (hnews : ∀ j u, (enc y)[j]? = some u → w.cell? (ad.add j) = some u) (h1 : ∀ u ∈ enc y, u.oneCell' = true)
  (h63 : l.length + 1 ≤ maxLen) (hbytes : (l.length + 1) * bytes ≤ 140737488355328) (hbase : base ≤ w.heap.size)
  (h : ∀ v' w', Own enc size w' base e v' (l ++ [y]) → w.grownBy w' v.ownBlock → Below base w w' → wpList P ops Q rest (a.put o.dst v') w') : wpList P ops Q (o :: rest) a w :=
 wpList_append_own w hgd s x t ho base e i z size bytes ht hi hz hsize hby hzs hsz v l.length (l.flatMap enc) hs hown ad 1 c (enc y) hx (by rw [henc]; omega) hnews h1 h63 hbytes hbase
  fun v' w' h2 h3 _ => h v' w' (by unfold Own; simpa using h2) h3 (below_of_grown h3 (fun k hk => (World.ownsRow.lt hown k hk).1) hbase)
/-- Some cells stored one after the other. -/
def putW (w : World) (g o : Nat) : Nat → List Value → World
 | _, [] => w
 | j, u :: us => putW (w.setCell ⟨g, o + j, none⟩ u) g o (j + 1) us
def putL (xs : List Value) (o : Nat) : Nat → List Value → List Value
 | _, [] => xs
 | j, u :: us => putL (xs.set (o + j) u) o (j + 1) us
theorem putL_append_left (xs ys : List Value) (o : Nat) : ∀ (us : List Value) (j : Nat), o + j + us.length ≤ xs.length → putL (xs ++ ys) o j us = putL xs o j us ++ ys
 | [], _, _ => rfl
 | u :: us, j, h => by
  simp only [List.length_cons] at h
  unfold putL
  rw [List.set_append_left _ _ (by omega), putL_append_left _ ys o us (j + 1) (by simp; omega)]
theorem putL_append_right (xs ys : List Value) (o : Nat) : ∀ (us : List Value) (j : Nat), putL (xs ++ ys) (xs.length + o) j us = xs ++ putL ys o j us
 | [], _ => rfl
 | u :: us, j => by
  unfold putL
  rw [List.set_append_right _ _ (by omega), show xs.length + o + j - xs.length = o + j from by omega]
  exact putL_append_right xs _ o us (j + 1)
theorem putL_all : ∀ (us pre xs : List Value), us.length = xs.length → putL (pre ++ xs) 0 pre.length us = pre ++ us
 | [], pre, xs, h => by
  obtain rfl : xs = [] := List.eq_nil_of_length_eq_zero h.symm
  rfl
 | u :: us, pre, [], h => by simp at h
 | u :: us, pre, x :: xs, h => by
  unfold putL
  rw [List.set_append_right _ _ (by omega), show 0 + pre.length - pre.length = 0 from by omega]
  have e : pre ++ (x :: xs).set 0 u = (pre ++ [u]) ++ xs := by simp
  rw [e]
  have := putL_all us (pre ++ [u]) xs (by simpa using h)
  rw [show (pre ++ [u]).length = pre.length + 1 by simp] at this
  rw [this]
  simp
section
variable {α : Type} {enc : α → List Value} {sz : Nat}
theorem putL_flat (henc : ∀ x, (enc x).length = sz) (x : α) : ∀ (l : List α) (i : Nat), i < l.length → putL (l.flatMap enc) (i * sz) 0 (enc x) = (l.set i x).flatMap enc
 | [], _, h => by simp at h
 | y :: l, 0, _ => by
  rw [List.flatMap_cons, Nat.zero_mul, putL_append_left _ _ _ _ _ (by simp [henc]), List.set_cons_zero, List.flatMap_cons]
  have := putL_all (enc x) [] (enc y) (by rw [henc, henc])
  simp only [List.nil_append, List.length_nil] at this
  rw [this]
 | y :: l, i + 1, h => by
  have e : (i + 1) * sz = (enc y).length + i * sz := by rw [henc, Nat.add_mul]; omega
  rw [List.flatMap_cons, e, putL_append_right, putL_flat henc x l i (by simpa using h), List.set_cons_succ, List.flatMap_cons]
theorem row_put {base : Nat} {e : TypeId} {g n cap : Nat} (o : Nat) : ∀ (us xs : List Value) (j : Nat) (w : World), w.ownsRow base e sz (.slice (some ⟨g, 0, none⟩) n cap) n xs →
  (putW w g o j us).ownsRow base e sz (.slice (some ⟨g, 0, none⟩) n cap) n (putL xs o j us) ∧ w.grownBy (putW w g o j us) (some g)
 | [], xs, j, w, h => ⟨h, ⟨rfl, rfl, rfl, Nat.le_refl _, fun _ _ _ => rfl⟩⟩
 | u :: us, xs, j, w, h => by
  obtain ⟨h1, h2⟩ := World.ownsRow.stored h (o + j) u
  obtain ⟨h3, h4⟩ := row_put o us _ (j + 1) _ h1
  exact ⟨h3, ⟨h4.os.trans h2.os, h4.tape.trans h2.tape, h4.output.trans h2.output, Nat.le_trans h2.size h4.size, fun k hk hne => (h4.block k (Nat.lt_of_lt_of_le hk h2.size) hne).trans (h2.block k hk hne)⟩⟩
/-- An element stored. -/
theorem Own.set {w : World} {base : Nat} {e : TypeId} {g n cap : Nat} {l : List α} (henc : ∀ x, (enc x).length = sz) (h : Own enc sz w base e (.slice (some ⟨g, 0, none⟩) n cap) l) (hn : n = l.length) (i : Nat) (hi : i < l.length) (x : α) :
  Own enc sz (putW w g (i * sz) 0 (enc x)) base e (.slice (some ⟨g, 0, none⟩) n cap) (l.set i x) ∧ w.grownBy (putW w g (i * sz) 0 (enc x)) (some g) := by
 subst hn
 obtain ⟨h1, h2⟩ := row_put (sz := sz) (i * sz) (enc x) _ 0 w h
 rw [putL_flat henc x l i hi] at h1
 refine ⟨?_, h2⟩
 unfold Own
 rw [List.length_set]
 exact h1
/-- A row cut at its end. -/
theorem Own.take {w : World} {base : Nat} {e : TypeId} {g n cap : Nat} {l : List α} (henc : ∀ x, (enc x).length = sz) (h : Own enc sz w base e (.slice (some ⟨g, 0, none⟩) n cap) l) (m : Nat) (hm : m ≤ l.length) :
  Own enc sz w base e (.slice (some ⟨g, 0, none⟩) m cap) (l.take m) := by
 have hl : (l.take m).length = m := by rw [List.length_take]; omega
 have hflat : ((l.take m).flatMap enc) = (l.flatMap enc).take (m * sz) := by
  have e : l.flatMap enc = (l.take m).flatMap enc ++ (l.drop m).flatMap enc := by rw [← List.flatMap_append, List.take_append_drop]
  rw [e, List.take_left' (by rw [flat_length henc, hl])]
 unfold Own
 rw [hl]
 refine ⟨by rw [flat_length henc, hl], ?_⟩
 rcases h.2 with ⟨h', h0⟩ | ⟨g', cap', cur, h', hb, hg, hnc, hcm, hcs, htake⟩
 ·cases h'
 ·simp only [Value.slice.injEq, Option.some.injEq, Addr.mk.injEq, and_true] at h'
  obtain ⟨rfl, _, rfl⟩ := h'
  refine .inr ⟨g, cap, cur, rfl, hb, hg, by omega, hcm, hcs, ?_⟩
  rw [hflat, ← htake, List.take_take, Nat.min_eq_left (Nat.mul_le_mul_right sz hm)]
end
/-- A slice literal: a new block that holds the list. -/
theorem Own.made {α : Type} {enc : α → List Value} {sz : Nat} (henc : ∀ y, (enc y).length = sz) (w : World) (base : Nat) (e : TypeId) (l : List α) (g : Nat) (hg : g = w.heap.size) (hb : base ≤ g) (hm : l.length ≤ maxLen) :
  Own enc sz (w.alloc (.cells (l.flatMap enc).toArray e)) base e (.slice (some ⟨g, 0, none⟩) l.length l.length) l := by
 subst hg
 have hf := flat_length henc l
 refine ⟨hf, .inr ⟨w.heap.size, l.length, (l.flatMap enc).toArray, rfl, hb, ?_, Nat.le_refl _, hm, by simpa using hf, ?_⟩⟩
 ·show (w.heap.push _)[w.heap.size]? = _
  simp
 ·rw [List.take_of_length_le (by simp [hf])]
variable {P : Program}
end Go.Proofs.YtnljihjhmgpcoaaGreat
namespace Go.Proofs.YtnljihjhmgpcoaaGreat
open Go.RowKit
def cmpI (a b : Int) : Int := if a < b then -1 else if b < a then 1 else 0
theorem isNaN_any (a : Int) (w : World) : Calls Tryz.prog 79 #[.int .i64 a] w fun e w' => e = .returned (.bool false) ∧ w = w' := by
 go_enter Tryz.func79, Tryz.ntmps79
 go_wp2
 go_ret
 exact ⟨ret_bool (by simp), rfl⟩
set_option maxHeartbeats 400000 in
theorem cmp_any (a b : Int) (w : World) : Calls Tryz.prog 43 #[.int .i64 a, .int .i64 b] w fun e w' => e = .returned (.int .i64 (cmpI a b)) ∧ w = w' := by
 go_enter Tryz.func43, Tryz.ntmps43
 go_wp2_with (go_at_call 79; refine (isNaN_any _ _).mono ?_; rintro e w' ⟨rfl, rfl⟩)
 all_goals (go_ret; exact ⟨ret_i64 (by unfold cmpI; grind), rfl⟩)
/-- The first one that is not zero. -/
def orL : List Int → Int
 | [] => 0
 | x :: xs => if x = 0 then orL xs else x
theorem orL_append (xs ys : List Int) (h : ∀ x ∈ xs, x = 0) : orL (xs ++ ys) = orL ys := by
 induction xs with
 | nil => rfl
 | cons x xs ih =>
  rw [List.cons_append, orL, if_pos (h x (by simp)), ih (fun y hy => h y (by simp [hy]))]
set_option maxHeartbeats 1000000 in
theorem or_any (A : Option Addr) (c : Nat) (xs : List Int) (w : World) (hn : xs.length ≤ 1000000) (h : Rd ienc 1 w w.heap.size A xs) :
  Calls Tryz.prog 42 #[.slice A xs.length c] w fun e w' => e = .returned (.int .i64 (orL xs)) ∧ w = w' := by
 obtain ⟨n, hn'⟩ : ∃ n, n = xs.length := ⟨_, rfl⟩
 rw [← hn'] at hn ⊢
 have HN := Lib.hid hn'
 clear hn'
 go_enter Tryz.func42, Tryz.ntmps42
 go_wp2
 go_loop [8] (fun i => ∃ k : Nat, k ≤ n ∧ i = .int .i64 k ∧ ∀ x ∈ xs.take k, x = 0) (fun i => n - (intOf i).toNat)
 case atStart => exact ⟨0, Nat.zero_le _, rfl, by simp⟩
 case round =>
  obtain ⟨k, hk, rfl, hz⟩ := hrel
  by_cases hlt : k < n
  ·have hkx : k < xs.length := by rw [← HN.out]; exact hlt
   have hx := List.getElem?_eq_getElem hkx
   have e1 : orL xs = orL (xs[k] :: xs.drop (k + 1)) := by
    rw [← List.drop_eq_getElem_cons hkx]
    conv => lhs; rw [← List.take_append_drop k xs]
    exact orL_append _ _ hz
   have e2 : xs.take (k + 1) = xs.take k ++ [xs[k]] := List.take_succ_eq_append_getElem hkx
   obtain ⟨x, hxe⟩ : ∃ x, x = xs[k] := ⟨_, rfl⟩
   rw [← hxe] at hx e1 e2
   obtain ⟨b, off, rfl, hb, hc⟩ := h.at_ hx
   have hc0 : w.cell? ⟨b, off + k, none⟩ = some (.int .i64 x) := by simpa using hc 0 _ rfl
   have E1 := Lib.hid e1; have E2 := Lib.hid e2; have HZ := Lib.hid hz
   clear hx hxe h hc e1 e2 hz
   by_cases hx0 : x = 0
   ·have hb0 : (x != 0) = false := by simp [hx0]
    have H0 := Lib.hid hx0
    clear hx0
    go_wp2
    go_round
    case rel => exact ⟨k + 1, by omega, by go_num, by rw [E2.out]; intro y hy; rcases List.mem_append.1 hy with hy | hy; exact HZ.out y hy; rw [List.mem_singleton] at hy; rw [hy]; exact H0.out⟩
    case measure => simp [intOf]; omega
   ·have hb0 : (x != 0) = true := by simp [hx0]
    have H0 := Lib.hid hx0
    clear hx0
    go_wp2
    go_ret
    exact ⟨ret_i64 (by rw [E1.out, orL, if_neg H0.out]), rfl⟩
  ·have e1 : orL xs = 0 := by
    have : xs.take k = xs := List.take_of_length_le (by rw [← HN.out]; omega)
    rw [this] at hz
    have := orL_append xs [] hz
    simpa [orL] using this
   have E1 := Lib.hid e1
   clear e1 hz
   go_wp2
   go_ret
   exact ⟨ret_i64 (by rw [E1.out]), rfl⟩
theorem or2 (x y : Int) (g : Nat) (w : World) (hg : g < w.heap.size) (h0 : w.cell? ⟨g, 0, none⟩ = some (.int .i64 x)) (h1 : w.cell? ⟨g, 1, none⟩ = some (.int .i64 y)) : Calls Tryz.prog 42 #[.slice (some ⟨g, 0, none⟩) 2 2] w fun e w' =>
  e = .returned (.int .i64 (orL [x, y])) ∧ w = w' :=
 or_any (some ⟨g, 0, none⟩) 2 [x, y] w (by simp) fun _ => ⟨g, 0, rfl, hg, fun k x hx j u hu => by
  match j, hu with
  | 0, hu =>
  simp [ienc] at hu; subst hu
  match k, x, hx with
  | 0, x, hx => simp at hx; subst hx; exact h0
  | 1, x, hx => simp at hx; subst hx; exact h1⟩
theorem or3 (x y z : Int) (g : Nat) (w : World) (hg : g < w.heap.size) (h0 : w.cell? ⟨g, 0, none⟩ = some (.int .i64 x)) (h1 : w.cell? ⟨g, 1, none⟩ = some (.int .i64 y)) (h2 : w.cell? ⟨g, 2, none⟩ = some (.int .i64 z)) : Calls Tryz.prog 42 #[.slice (some ⟨g, 0, none⟩) 3 3] w fun e w' =>
  e = .returned (.int .i64 (orL [x, y, z])) ∧ w = w' :=
 or_any (some ⟨g, 0, none⟩) 3 [x, y, z] w (by simp) fun _ => ⟨g, 0, rfl, hg, fun k x hx j u hu => by
  match j, hu with
  | 0, hu =>
  simp [ienc] at hu; subst hu
  match k, x, hx with
  | 0, x, hx => simp at hx; subst hx; exact h0
  | 1, x, hx => simp at hx; subst hx; exact h1
  | 2, x, hx => simp at hx; subst hx; exact h2⟩
def senc (s : Int × Int) : List Value := [.int .i64 s.1, .int .i64 s.2]
theorem span_cells {w : World} {B : Nat} {A : Option Addr} {l : List (Int × Int)} (h : Rd senc 2 w B A l) {k : Nat} {x : Int × Int} (hx : l[k]? = some x) :
  ∃ b off, A = some ⟨b, off, none⟩ ∧ b < B ∧ w.cell? ⟨b, off + k * 2, none⟩ = some (.int .i64 x.1) ∧ w.cell? ⟨b, off + k * 2 + 1, none⟩ = some (.int .i64 x.2) := by
 obtain ⟨b, off, e, hb, hc⟩ := h.at_ hx
 exact ⟨b, off, e, hb, by simpa using hc 0 _ rfl, hc 1 _ rfl⟩
def sright (size every : Int) : Prop := 1 ≤ size ∧ 1 ≤ every ∧ size ≤ 1073741824 ∧ every ≤ size ∧ size ≤ 16 * every
instance (size every : Int) : Decidable (sright size every) := by unfold sright; infer_instance
/-- The windows with the numbers n - 16 .. n + 1 that have the time, in order. -/
def swin (t size every : Int) (i : Int) : Bool := decide (i * every ≤ t ∧ t < i * every + size)
def swk (t size every n : Int) (k : Nat) : List (Int × Int) := (((List.range k).map fun (j : Nat) => n - 16 + (j : Int)).filter (swin t size every)).map fun i => (i * every, i * every + size)
theorem swk_succ (t size every n : Int) (k : Nat) : swk t size every n (k + 1) = if swin t size every (n - 16 + k) = true then swk t size every n k ++ [((n - 16 + k) * every, (n - 16 + k) * every + size)] else swk t size every n k := by
 unfold swk
 rw [List.range_succ]
 split <;> rename_i h <;> simp [List.filter_append, h]
theorem swk_len (t size every n : Int) (k : Nat) : (swk t size every n k).length ≤ k := by
 unfold swk
 simp only [List.length_map]
 exact Nat.le_trans (List.length_filter_le _ _) (by simp)
theorem span_info : (Tryz.prog.info? 59).map (fun i => (i.zero, i.size, i.bytes)) = some (some (.agg #[.int .i64 0, .int .i64 0]), 2, 16) := by kernel_rfl
/-- The reference's sliding windows. -/
def swins (t size every : Int) : List (Int × Int) := swk t size every (t / every) 18
def rall (t size every : Int) : List (Int × Int) × Int := if ¬ sright size every then ([], 2) else if t < -1099511627776 ∨ 1099511627776 < t then ([], 16) else (swins t size every, 0)
end Go.Proofs.YtnljihjhmgpcoaaGreat
namespace Go.Proofs.YtnljihjhmgpcoaaGreat
open Go.RowKit Go.WideShapes Go.ChangeShapes Go.ChangeAt
/-- The windows of a time, for a valid window that is no session. -/
def wspans (k s e t : Int) : List (Int × Int) := if k = 1 then [tspan t s] else swins t s e
def wof (k s e t : Int) : List (Int × Int) × Int := if ¬ wok k s e then ([], 8) else if k = 3 then ([], 2) else if t < -1099511627776 ∨ 1099511627776 < t then ([], 16) else (wspans k s e t, 0)
end Go.Proofs.YtnljihjhmgpcoaaGreat
namespace Go.Proofs.YtnljihjhmgpcoaaGreat
def scount (t size every : Int) : Nat := ((size - 1 - (t - t / every * every)) / every + 1).toNat
/-- The first k windows from the last one on. -/
def sback (t size every : Int) (k : Nat) : List (Int × Int) := (List.range k).map fun (j : Nat) => (t / every * every - (j : Int) * every, t / every * every - (j : Int) * every + size)
theorem sback_succ (t size every : Int) (k : Nat) : sback t size every (k + 1) = sback t size every k ++ [(t / every * every - (k : Int) * every, t / every * every - (k : Int) * every + size)] := by
 simp [sback, List.range_succ]
theorem sback_len (t size every : Int) (k : Nat) : (sback t size every k).length = k := by simp [sback]
theorem scount_facts {t size every : Int} (hr : sright size every) : 1 ≤ scount t size every ∧ scount t size every ≤ 16 ∧
  (∀ k : Nat, k < scount t size every → t < t / every * every - (k : Int) * every + size) ∧ t / every * every - (scount t size every : Int) * every + size ≤ t := by
 obtain ⟨s1, s2, s3, s4, s5⟩ := hr
 have q1 := Int.ediv_mul_le t (by omega : every ≠ 0)
 have q2 := Int.lt_ediv_add_one_mul_self t (by omega : 0 < every)
 rw [Int.add_mul, Int.one_mul] at q2
 obtain ⟨S, hS⟩ : ∃ S, S = t / every * every := ⟨_, rfl⟩
 unfold scount
 rw [← hS] at q1 q2 ⊢
 have p1 := Int.ediv_mul_le (size - 1 - (t - S)) (by omega : every ≠ 0)
 have p2 := Int.lt_ediv_add_one_mul_self (size - 1 - (t - S)) (by omega : 0 < every)
 have p3 : 0 ≤ (size - 1 - (t - S)) / every := Int.ediv_nonneg (by omega) (by omega)
 have p4 : (size - 1 - (t - S)) / every < 16 := Int.ediv_lt_of_lt_mul (by omega) (by omega)
 obtain ⟨q, hq⟩ : ∃ q, q = (size - 1 - (t - S)) / every := ⟨_, rfl⟩
 rw [← hq] at p1 p2 p3 p4 ⊢
 refine ⟨by omega, by omega, fun k hk => ?_, ?_⟩
 ·have : (k : Int) * every ≤ q * every := Int.mul_le_mul_of_nonneg_right (by omega) (by omega)
  omega
 ·have : ((q + 1).toNat : Int) = q + 1 := Int.toNat_of_nonneg (by omega)
  rw [this]
  omega
theorem sback_reverse_get (t size every : Int) (K : Nat) : (sback t size every K).reverse = (List.range K).map fun (j : Nat) => ((t / every - K + 1 + j) * every, (t / every - K + 1 + j) * every + size) := by
 apply List.ext_getElem
 ·simp [sback]
 ·intro i h1 h2
  simp [sback] at h1
  have e : ((K - 1 - i : Nat) : Int) = (K : Int) - 1 - i := by omega
  have e2 : t / every * every - ((K : Int) - 1 - i) * every = (t / every - K + 1 + i) * every := by
   rw [← Int.sub_mul]; congr 1; omega
  simp [sback, List.getElem_reverse, e, e2]
theorem swins_eq {t size every : Int} (hr : sright size every) : swins t size every = (sback t size every (scount t size every)).reverse := by
 obtain ⟨k1, k2, k3, k4⟩ := scount_facts (t := t) hr
 obtain ⟨s1, s2, s3, s4, s5⟩ := hr
 have q1 := Int.ediv_mul_le t (by omega : every ≠ 0)
 have q2 := Int.lt_ediv_add_one_mul_self t (by omega : 0 < every)
 obtain ⟨K, hK⟩ : ∃ K, K = scount t size every := ⟨_, rfl⟩
 rw [sback_reverse_get]
 unfold swins
 rw [← hK] at k1 k2 k3 k4 ⊢
 obtain ⟨n, hn⟩ : ∃ n, n = t / every := ⟨_, rfl⟩
 rw [← hn] at q1 q2 k3 k4 ⊢
 have hA : ∀ k : Nat, k ≤ 17 - K → swk t size every n k = [] := by
  intro k
  induction k with
  | zero => intro _; rfl
  | succ k ih =>
   intro hk
   rw [swk_succ, ih (by omega), if_neg]
   have : (n - 16 + (k : Int)) * every ≤ (n - K) * every := Int.mul_le_mul_of_nonneg_right (by omega) (by omega)
   rw [Int.sub_mul] at this
   simp only [swin, decide_eq_true_eq, not_and]
   intro _
   omega
 have hB : ∀ j : Nat, j ≤ K → swk t size every n (17 - K + j) = (List.range j).map fun (j : Nat) => ((n - K + 1 + j) * every, (n - K + 1 + j) * every + size) := by
  intro j
  induction j with
  | zero => intro _; exact hA _ (Nat.le_refl _)
  | succ j ih =>
   intro hj
   have e : n - 16 + ((17 - K + j : Nat) : Int) = n - K + 1 + j := by omega
   have b1 : (n - K + 1 + (j : Int)) * every ≤ n * every := Int.mul_le_mul_of_nonneg_right (by omega) (by omega)
   have b2 := k3 (K - 1 - j) (by omega)
   have e2 : n * every - ((K - 1 - j : Nat) : Int) * every = (n - K + 1 + j) * every := by
    rw [← Int.sub_mul]; congr 1; omega
   rw [e2] at b2
   rw [← Nat.add_assoc, swk_succ, ih (by omega), e, if_pos (by simp only [swin, decide_eq_true_eq]; omega), List.range_succ, List.map_append]
   rfl
 have hC : swk t size every n 18 = swk t size every n 17 := by
  rw [swk_succ, if_neg]
  have e : n - 16 + ((17 : Nat) : Int) = n + 1 := by omega
  rw [e]
  simp only [swin, decide_eq_true_eq, not_and]
  omega
 rw [hC, ← hB K (Nat.le_refl _)]
 congr 1
 omega
theorem swins_len {t size every : Int} (hr : sright size every) : (swins t size every).length = scount t size every := by
 rw [swins_eq hr]; simp [sback_len]
end Go.Proofs.YtnljihjhmgpcoaaGreat
