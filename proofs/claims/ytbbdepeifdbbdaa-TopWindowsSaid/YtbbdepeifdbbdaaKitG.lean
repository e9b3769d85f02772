/- Lemmas and contracts that the later texts use: SortOwn, SessPlain, SessFuncs, SessSort, SessNone, SessRows, SessRight, joined into one text. The conditions of each stand at its head. -/
import Derived.Shelf.SlSortCmp.InsertionK
import Derived.Test.YtbbdepeifdbbdaaKitA
import Derived.Lib.Hide
import Derived.Test.YtbbdepeifdbbdaaKitB
import Derived.Lib.SliceRun
import Derived.Test.YtbbdepeifdbbdaaKitC
import Derived.Test.YtbbdepeifdbbdaaSortLaid
import Derived.Shelf.SlSortCmp.WholeK
import Derived.Shelf.SlSortCmp.NoneTotal
import Derived.ArgAppend
/- slices.SortFunc over a row of the call's own, said of lists: what the kit's contract asks and gives, in the terms of this seat. No condition. -/
namespace Go.Proofs.Ytbbdepeifdbbdaa
open Go.RowKit Go.Sort

section
variable {α : Type} [Inhabited α] {enc : α → List Value} {k : Nat}
theorem flatK_at (hk : ∀ x, (enc x).length = k) (l : List α) (j : Nat) (hj : j < l.length * k) : (l.flatMap enc)[j]? = some (flatK enc k l.toArray)[j]! := by
  have hkp : 0 < k := by
    rcases Nat.eq_zero_or_pos k with h | h
    · subst h; omega
    · exact h
  have hq : j / k < l.length := Nat.div_lt_of_lt_mul (by rw [Nat.mul_comm]; exact hj)
  have hr := Nat.mod_lt j hkp
  have hje : j / k * k + j % k = j := by rw [Nat.mul_comm]; exact Nat.div_add_mod j k
  rw [get_flatK enc k l.toArray j (by simpa using hj)]
  have e1 : l.toArray[j / k]! = l[j / k] := by simp [hq]
  rw [e1]
  have hlen : j % k < (enc l[j / k]).length := by rw [hk]; exact hr
  have h := flat_at hk l (j / k) (j % k) l[j / k] ((enc l[j / k])[j % k]) (List.getElem?_eq_getElem hq) (List.getElem?_eq_getElem hlen)
  rw [hje] at h
  rw [h]
  exact congrArg some (getElem!_pos (enc l[j / k]) (j % k) hlen).symm
theorem own_holds {w : World} {base : Nat} {e : TypeId} {g n cap : Nat} {l : List α} (hk : ∀ x, (enc x).length = k) (h : Own enc k w base e (.slice (some ⟨g, 0, none⟩) n cap) l) (hn : n = l.length) : HoldsK enc k w g 0 l.toArray := by
  subst hn
  intro j hj
  rw [size_flatK] at hj
  have hj' : j < l.length * k := by simpa using hj
  refine ⟨?_, World.ownsRow.frozenAt h _⟩
  rw [Nat.zero_add, World.ownsRow.cellAt h j hj', flatK_at hk l j hj']
  rfl
/-- The row behind the sort. -/
theorem own_sorted {w w' : World} {base : Nat} {e : TypeId} {g n cap : Nat} {l l' : List α} (hk : ∀ x, (enc x).length = k) (h : Own enc k w base e (.slice (some ⟨g, 0, none⟩) n cap) l) (hn : n = l.length) (hl : l'.length = l.length) {m : Nat} {os : Array Obj}
    (hw : w' = sortWorldK enc k w g 0 m l'.toArray os) : Own enc k w' base e (.slice (some ⟨g, 0, none⟩) n cap) l' ∧ w.grownBy w' (some g) := by
  subst hn
  have hlt := (World.ownsRow.lt h g rfl).2
  have hsize : (putRowK enc k (Go.Sort.ahead w m) g 0 l'.toArray).heap.size = w.heap.size := by simp [putRowK, putRow, mapBlock, Go.Sort.ahead]
  have hother : ∀ i, i < w.heap.size → i ≠ g → w'.heap[i]? = w.heap[i]? := by
    intro i hi hne
    subst hw
    unfold sortWorldK grow
    show ((putRowK enc k (Go.Sort.ahead w m) g 0 l'.toArray).heap ++ os)[i]? = _
    rw [Array.getElem?_append_left (by rw [hsize]; exact hi)]
    simp [putRowK, putRow, mapBlock, Go.Sort.ahead, Array.getElem?_modify, Ne.symm hne]
  constructor
  · rcases h.2 with ⟨h', _⟩ | ⟨g', cap', cur, h', hb, hg, hnc, hcm, hcs, htake⟩
    · cases h'
    · simp only [Value.slice.injEq, Option.some.injEq, Addr.mk.injEq, and_true] at h'
      obtain ⟨rfl, _, rfl⟩ := h'
      have hblock : w'.heap[g]? = some (.cells (putCells id 0 (flatK enc k l'.toArray) cur) e (0, 0)) := by
        subst hw
        unfold sortWorldK grow
        show ((putRowK enc k (Go.Sort.ahead w m) g 0 l'.toArray).heap ++ os)[g]? = _
        rw [Array.getElem?_append_left (by rw [hsize]; exact hlt)]
        simp [putRowK, putRow, mapBlock, Go.Sort.ahead, Array.getElem?_modify, hg, onCells]
      unfold Own
      rw [hl]
      refine ⟨by rw [flat_length hk, hl], .inr ⟨g, cap, _, rfl, hb, hblock, hnc, hcm, by simp [putCells, hcs], ?_⟩⟩
      apply List.ext_getElem?
      intro j
      have hle := Nat.mul_le_mul_right k hnc
      rw [List.getElem?_take]
      split
      · rename_i hj
        rw [flatK_at hk l' j (by rw [hl]; exact hj)]
        have hjc : j < cur.size := by rw [hcs]; omega
        simp [putCells, hjc, hl, hj]
      · rename_i hj
        rw [List.getElem?_eq_none (by rw [flat_length hk, hl]; omega)]
  · subst hw
    refine ⟨rfl, rfl, rfl, ?_, fun i hi hne => hother i hi (fun e => hne (by rw [e]))⟩
    unfold sortWorldK grow
    show w.heap.size ≤ ((putRowK enc k (Go.Sort.ahead w m) g 0 l'.toArray).heap ++ os).size
    rw [Array.size_append, hsize]
    omega
theorem permIn_all {d d' : Array α} (h : PermIn 0 d.size d d') : d'.toList.Perm d.toList := by
  obtain ⟨h1, _, h3⟩ := h
  have e1 : d'.extract 0 d.size = d' := by rw [← h1]; simp
  have e2 : d.extract 0 d.size = d := by simp
  rwa [e1, e2] at h3
theorem sortedIn_all {lt : α → α → Bool} {d : Array α} (h : SortedIn lt 0 d.size d) : d.toList.Pairwise fun a b => lt b a = false := by
  rw [List.pairwise_iff_getElem]
  intro i j hi hj hij
  have := h i j (Nat.zero_le _) hij (by simpa using hj)
  have hi' : i < d.size := by simpa using hi
  have hj' : j < d.size := by simpa using hj
  simpa [hi', hj'] using this
end
end Go.Proofs.Ytbbdepeifdbbdaa

/- Sessions as plain lists of spans: what they cover fixes them; merging sorted spans, and putting one more span among sessions, keep what is covered. No condition. -/
namespace Go.Proofs.Ytbbdepeifdbbdaa

/-- What spans cover, on a line of half steps. -/
def Cov (l : List (Int × Int)) (z : Int) : Prop := ∃ s ∈ l, 2 * s.1 < z ∧ z < 2 * s.2
/-- Sessions: none is empty, each one ends ahead of the next. -/
def Good : List (Int × Int) → Prop
  | [] => True
  | s :: l => s.1 < s.2 ∧ (∀ x ∈ l, s.2 ≤ x.1) ∧ Good l
theorem cov_nil (z : Int) : ¬ Cov [] z := by rintro ⟨s, h, _⟩; cases h
theorem cov_cons (s : Int × Int) (l : List (Int × Int)) (z : Int) : Cov (s :: l) z ↔ (2 * s.1 < z ∧ z < 2 * s.2) ∨ Cov l z := by
  unfold Cov
  simp only [List.mem_cons, exists_eq_or_imp]
theorem cov_append (l m : List (Int × Int)) (z : Int) : Cov (l ++ m) z ↔ Cov l z ∨ Cov m z := by
  unfold Cov
  simp only [List.mem_append]
  constructor
  · rintro ⟨s, h | h, h2⟩
    · exact .inl ⟨s, h, h2⟩
    · exact .inr ⟨s, h, h2⟩
  · rintro (⟨s, h, h2⟩ | ⟨s, h, h2⟩)
    · exact ⟨s, .inl h, h2⟩
    · exact ⟨s, .inr h, h2⟩
theorem cov_perm {l m : List (Int × Int)} (h : l.Perm m) (z : Int) : Cov l z ↔ Cov m z := by
  unfold Cov
  simp only [h.mem_iff]
theorem good_mem : ∀ {l : List (Int × Int)}, Good l → ∀ x ∈ l, x.1 < x.2
  | [], _, _, h => by cases h
  | _ :: _, ⟨h1, _, h3⟩, x, h => by
    rcases List.mem_cons.1 h with rfl | h
    · exact h1
    · exact good_mem h3 x h
theorem good_append : ∀ {l m : List (Int × Int)}, Good (l ++ m) ↔ Good l ∧ Good m ∧ ∀ x ∈ l, ∀ y ∈ m, x.2 ≤ y.1
  | [], m => by simp [Good]
  | s :: l, m => by
    rw [List.cons_append]
    show (s.1 < s.2 ∧ (∀ x ∈ l ++ m, s.2 ≤ x.1) ∧ Good (l ++ m)) ↔ (s.1 < s.2 ∧ (∀ x ∈ l, s.2 ≤ x.1) ∧ Good l) ∧ Good m ∧ ∀ x ∈ s :: l, ∀ y ∈ m, x.2 ≤ y.1
    rw [good_append]
    constructor
    · rintro ⟨h1, h2, h3, h4, h5⟩
      refine ⟨⟨h1, fun x hx => h2 x (List.mem_append_left _ hx), h3⟩, h4, fun x hx y hy => ?_⟩
      rcases List.mem_cons.1 hx with rfl | hx
      · exact h2 y (List.mem_append_right _ hy)
      · exact h5 x hx y hy
    · rintro ⟨⟨h1, h2, h3⟩, h4, h5⟩
      refine ⟨h1, fun x hx => ?_, h3, h4, fun x hx => h5 x (List.mem_cons_of_mem _ hx)⟩
      rcases List.mem_append.1 hx with h | h
      · exact h2 x h
      · exact h5 s (List.mem_cons_self) x h
/-- What is covered fixes sessions. -/
theorem good_unique : ∀ {l m : List (Int × Int)}, Good l → Good m → (∀ z, Cov l z ↔ Cov m z) → l = m
  | [], [], _, _, _ => rfl
  | [], b :: m, _, ⟨h1, _, _⟩, h => absurd ((h (2 * b.1 + 1)).2 ⟨b, List.mem_cons_self, by omega, by omega⟩) (cov_nil _)
  | a :: l, [], ⟨h1, _, _⟩, _, h => absurd ((h (2 * a.1 + 1)).1 ⟨a, List.mem_cons_self, by omega, by omega⟩) (cov_nil _)
  | a :: l, b :: m, ha, hb, h => by
    have ha0 := ha
    have hb0 := hb
    obtain ⟨a1, a2, a3⟩ := ha
    obtain ⟨b1, b2, b3⟩ := hb
    have first : ∀ {x y : Int × Int} {p q : List (Int × Int)}, Good (x :: p) → Good (y :: q) → (∀ z, Cov (x :: p) z → Cov (y :: q) z) → y.1 ≤ x.1 := by
      intro x y p q hx hy hz
      obtain ⟨s, hs, s1, s2⟩ := hz (2 * x.1 + 1) ⟨x, List.mem_cons_self, by omega, by have := hx.1; omega⟩
      rcases List.mem_cons.1 hs with rfl | hs
      · omega
      · have := hy.2.1 s hs
        have := hy.1
        omega
    have e1 : a.1 = b.1 := Int.le_antisymm (first hb0 ha0 (fun z => (h z).2)) (first ha0 hb0 (fun z => (h z).1))
    have last : ∀ {x y : Int × Int} {p q : List (Int × Int)}, Good (x :: p) → Good (y :: q) → x.1 = y.1 → (∀ z, Cov (y :: q) z → Cov (x :: p) z) → y.2 ≤ x.2 := by
      intro x y p q hx hy he hz
      rcases Int.lt_or_le x.2 y.2 with hlt | hle
      · exfalso
        obtain ⟨s, hs, s1, s2⟩ := hz (2 * x.2) ⟨y, List.mem_cons_self, by have := hx.1; omega, by omega⟩
        rcases List.mem_cons.1 hs with rfl | hs
        · omega
        · have := hx.2.1 s hs
          omega
      · exact hle
    have e2 : a.2 = b.2 := Int.le_antisymm (last hb0 ha0 e1.symm (fun z => (h z).1)) (last ha0 hb0 e1 (fun z => (h z).2))
    obtain rfl : a = b := by
      obtain ⟨x, y⟩ := a
      obtain ⟨u, v⟩ := b
      simp only at e1 e2
      rw [e1, e2]
    have tails : ∀ {p q : List (Int × Int)}, Good (a :: p) → (∀ z, Cov (a :: p) z → Cov (a :: q) z) → ∀ z, Cov p z → Cov q z := by
      intro p q hp hz z hc
      rcases (cov_cons a q z).1 (hz z ((cov_cons a p z).2 (.inr hc))) with hh | hh
      · obtain ⟨s, hs, s1, s2⟩ := hc
        have := hp.2.1 s hs
        omega
      · exact hh
    rw [good_unique a3 b3 (fun z => ⟨tails ha0 (fun z => (h z).1) z, tails hb0 (fun z => (h z).2) z⟩)]

/-- Merging: one span more, behind the last one. -/
def mstep (out : List (Int × Int)) (s : Int × Int) : List (Int × Int) :=
  match out.getLast? with
  | some p => if s.1 < p.2 then out.dropLast ++ [(p.1, max p.2 s.2)] else out ++ [s]
  | none => [s]
theorem mstep_snoc (o : List (Int × Int)) (p s : Int × Int) : mstep (o ++ [p]) s = if s.1 < p.2 then o ++ [(p.1, max p.2 s.2)] else o ++ [p, s] := by
  unfold mstep
  simp
/-- Spans that lie by their starts, merged. -/
def mergeS (l : List (Int × Int)) : List (Int × Int) := l.foldl mstep []
theorem mstep_good {out : List (Int × Int)} {s : Int × Int} (hg : Good out) (hs : s.1 < s.2) (hle : ∀ x ∈ out, x.1 ≤ s.1) :
    Good (mstep out s) ∧ (∀ x ∈ mstep out s, x.1 ≤ s.1) ∧ ∀ z, Cov (mstep out s) z ↔ Cov out z ∨ (2 * s.1 < z ∧ z < 2 * s.2) := by
  rcases List.eq_nil_or_concat out with rfl | ⟨o, p, rfl⟩
  · refine ⟨⟨hs, by simp, trivial⟩, by simp [mstep], fun z => ?_⟩
    show Cov [s] z ↔ _
    rw [cov_cons]
    constructor
    · rintro (h | h)
      · exact .inr h
      · exact absurd h (cov_nil z)
    · rintro (h | h)
      · exact absurd h (cov_nil z)
      · exact .inl h
  · rw [List.concat_eq_append] at hg hle ⊢
    rw [mstep_snoc]
    obtain ⟨g1, g2, g3⟩ := good_append.1 hg
    have hp : p.1 ≤ s.1 := hle p (by simp)
    have hpp : p.1 < p.2 := g2.1
    split
    · rename_i hlt
      have hmax : p.1 < max p.2 s.2 := by omega
      refine ⟨good_append.2 ⟨g1, ⟨hmax, by simp, trivial⟩, fun x hx y hy => ?_⟩, fun x hx => ?_, fun z => ?_⟩
      · simp at hy
        subst hy
        exact g3 x hx p (by simp)
      · rcases List.mem_append.1 hx with h | h
        · exact hle x (List.mem_append_left _ h)
        · simp at h; subst h; exact hp
      · rw [cov_append, cov_append, cov_cons, cov_cons]
        simp only [cov_nil, or_false]
        constructor
        · rintro (h | ⟨h1, h2⟩)
          · exact .inl (.inl h)
          · rcases Int.lt_or_le z (2 * p.2) with h3 | h3
            · exact .inl (.inr ⟨h1, h3⟩)
            · exact .inr ⟨by omega, by omega⟩
        · rintro ((h | ⟨h1, h2⟩) | ⟨h1, h2⟩)
          · exact .inl h
          · exact .inr ⟨h1, by omega⟩
          · exact .inr ⟨by omega, by omega⟩
    · rename_i hlt
      have e : o ++ [p, s] = (o ++ [p]) ++ [s] := by simp
      rw [e]
      refine ⟨good_append.2 ⟨hg, ⟨hs, by simp, trivial⟩, fun x hx y hy => ?_⟩, fun x hx => ?_, fun z => ?_⟩
      · simp at hy
        subst hy
        rcases List.mem_append.1 hx with h | h
        · have := g3 x h p (by simp)
          omega
        · simp at h; subst h; omega
      · rcases List.mem_append.1 hx with h | h
        · exact hle x h
        · simp at h; subst h; omega
      · rw [cov_append (o ++ [p]), cov_cons]
        simp only [cov_nil, or_false]
theorem mergeS_good (l : List (Int × Int)) (hn : ∀ x ∈ l, x.1 < x.2) (hs : l.Pairwise fun a b => a.1 ≤ b.1) : Good (mergeS l) ∧ ∀ z, Cov (mergeS l) z ↔ Cov l z := by
  suffices H : ∀ (l out : List (Int × Int)), (∀ x ∈ l, x.1 < x.2) → (l.Pairwise fun a b => a.1 ≤ b.1) → Good out → (∀ x ∈ out, ∀ y ∈ l, x.1 ≤ y.1) →
      Good (l.foldl mstep out) ∧ ∀ z, Cov (l.foldl mstep out) z ↔ Cov out z ∨ Cov l z by
    have := H l [] hn hs trivial (by simp)
    refine ⟨this.1, fun z => ?_⟩
    rw [show mergeS l = l.foldl mstep [] from rfl, this.2 z]
    simp [cov_nil]
  intro l
  induction l with
  | nil => intro out _ _ hg _; exact ⟨hg, fun z => by simp [cov_nil]⟩
  | cons s l ih =>
    intro out hn hs hg hle
    obtain ⟨p1, p2⟩ := List.pairwise_cons.1 hs
    obtain ⟨m1, m2, m3⟩ := mstep_good hg (hn s (by simp)) (fun x hx => hle x hx s (by simp))
    obtain ⟨i1, i2⟩ := ih (mstep out s) (fun x hx => hn x (by simp [hx])) p2 m1 (fun x hx y hy => Int.le_trans (m2 x hx) (p1 y hy))
    refine ⟨i1, fun z => ?_⟩
    rw [List.foldl_cons, i2 z, m3 z, cov_cons, or_assoc]
/-- The same spans, in whatever order they lay, merged: the same sessions. -/
theorem mergeS_perm {l m : List (Int × Int)} (hn : ∀ x ∈ l, x.1 < x.2) (hl : l.Pairwise fun a b => a.1 ≤ b.1) (hm : m.Pairwise fun a b => a.1 ≤ b.1) (hp : l.Perm m) : mergeS l = mergeS m := by
  obtain ⟨a1, a2⟩ := mergeS_good l hn hl
  obtain ⟨b1, b2⟩ := mergeS_good m (fun x hx => hn x (hp.mem_iff.2 hx)) hm
  exact good_unique a1 b1 (fun z => by rw [a2, b2, cov_perm hp])

/-! ### one span put among sessions, as the reference does it -/
end Go.Proofs.Ytbbdepeifdbbdaa

/- The contracts of slices.Clone at spans and of the sessions' checks (chapter 15). Condition: lists of at most 2^40 spans. -/
namespace Go.Proofs.Ytbbdepeifdbbdaa
open Go.RowKit

theorem sp_info : (Try.prog.info? 38).map (fun i => (i.zero, i.size, i.bytes)) = some (some (.agg #[.int .i64 0, .int .i64 0]), 2, 16) := by kernel_rfl
theorem senc_len (x : Int × Int) : (senc x).length = 2 := rfl
theorem senc_one (l : List (Int × Int)) : ∀ u ∈ l.flatMap senc, u.oneCell' = true := by
  intro u hu
  obtain ⟨x, _, hx⟩ := List.mem_flatMap.1 hu
  simp [senc] at hx
  rcases hx with rfl | rfl <;> rfl
set_option maxHeartbeats 2000000 in
set_option maxRecDepth 100000 in
theorem sclone_any (A : Option Addr) (c n : Nat) (l : List (Int × Int)) (w : World) (hln : l.length = n) (hz : A = none → c = 0) (hn : n ≤ 1099511627776) (hr : Rd senc 2 w w.heap.size A l) :
    Calls Try.prog 104 #[.slice A n c] w fun e w' => ∃ v, e = .returned v ∧ Own senc 2 w' w.heap.size 38 v l ∧ Below w.heap.size w w' := by
  obtain ⟨i0, hi0, hz0, hz1, hz2⟩ := info_parts sp_info
  have HL := Lib.hid hln
  have hu : ∀ (w : World) (a : Option Addr) (n c n' c' : Nat), (binOp .eql 57 (.slice a n c) (.slice none n' c')).run Try.prog w = .ok (.bool a.isNone) w := fun w a n c n' c' => Lib.run_eql_slice_nil w _ _ a n c n' c' Try.underlying57
  cases A with
  | none =>
    obtain rfl := hz rfl
    obtain rfl := rd_none hr
    obtain rfl : n = 0 := hln.symm
    go_enter Try.func104, Try.ntmps104
    go_wp2
    go_ret
    exact ⟨_, rfl, Own.nil _ _ _, (by repeat (first | with_reducible exact Below.refl _ _ | with_reducible assumption | (with_reducible exact Env.below (by assumption)) | (with_reducible refine below_new ?_ _) | (with_reducible refine below_drew ?_) | (with_reducible refine below_drewN ?_ _) | (with_reducible refine below_put ?_ ?_ _; rotate_left 1; (dsimp only; omega)) | (with_reducible refine below_then ?_ (by assumption))))⟩
  | some ad =>
    clear hln
    go_enter Try.func104, Try.ntmps104
    go_wp2_with (at_builtin; refine wpList_append_copy rfl (.tmp 5) (.tmp 6) 57 rfl w.heap.size 38 i0 (.agg #[.int .i64 0, .int .i64 0]) 2 16 Try.underlying57 hi0 hz0 hz1 hz2 rfl (by decide) senc senc_len w.heap.size 0 l rfl (own_empty (heap_alloc_new w (.cells #[] 38)) (Nat.le_refl _)) (some ad) n c rfl HL.out hz (rd_grown hr (by repeat (first | with_reducible exact Below.refl _ _ | with_reducible assumption | (with_reducible exact Env.below (by assumption)) | (with_reducible refine below_new ?_ _) | (with_reducible refine below_drew ?_) | (with_reducible refine below_drewN ?_ _) | (with_reducible refine below_put ?_ ?_ _; rotate_left 1; (dsimp only; omega)) | (with_reducible refine below_then ?_ (by assumption))))) (senc_one l) (by unfold maxLen; omega) (by omega) (by simp) ?_; intro g cap w2 hown2 hcap hg2 hb2)
    go_ret
    exact ⟨_, rfl, hown2, (below_new (Below.refl _ _) _).trans hb2⟩

/-- The checks of a time and a gap. -/
def sck (t g : Int) : Int := if g < 1 ∨ 1073741824 < g then 2 else if t < -1099511627776 ∨ 1099511627776 < t then 16 else 0
theorem scheck_any (t g : Int) (w : World) : Calls Try.prog 80 #[.int .i64 t, .int .i64 g] w fun e w' => e = .returned (.int .i64 (sck t g)) ∧ w = w' := by
  go_enter Try.func80, Try.ntmps80
  go_wp2
  all_goals (go_ret; exact ⟨ret_i64 (by unfold sck; grind), rfl⟩)
/-- A list of sessions. -/
def sok (x : Int × Int) : Prop := -1099511627776 ≤ x.1 ∧ x.1 ≤ 1099511627776 ∧ x.1 < x.2 ∧ x.2 ≤ 1100585369600
instance (x : Int × Int) : Decidable (sok x) := by unfold sok; infer_instance
end Go.Proofs.Ytbbdepeifdbbdaa

/- slices.SortFunc at the sessions' spans (chapter 15). Condition: fewer than 2^62 spans. -/
namespace Go.Proofs.Ytbbdepeifdbbdaa
open Go.RowKit Go.Sort Go.Shelf

theorem senc_len' (x : Int × Int) : (senc x).length = 2 := rfl
def cmpS (x y : Int × Int) : Int := cmpI x.1 y.1
theorem ltS (x y : Int × Int) : ltOf cmpS x y = decide (x.1 < y.1) := by
  unfold ltOf cmpS cmpI
  grind
theorem swoS : SWO (ltOf cmpS) where
  irrefl x := by rw [ltS]; simp
  trans x y z h1 h2 := by rw [ltS] at *; simp at *; omega
  ntrans x y z h1 h2 := by rw [ltS] at *; simp at *; omega
set_option maxHeartbeats 1000000 in
theorem cloS_any (x y : Int × Int) (W : World) : Calls Try.prog 106 #[.agg #[.int .i64 x.1, .int .i64 x.2], .agg #[.int .i64 y.1, .int .i64 y.2]] W fun e w' => e = .returned (.int .i64 (cmpS x y)) ∧ ∃ q os', w' = grow (W.drewN q) os' := by
  have hc := Lib.hid (show cmpI x.1 y.1 = cmpS x y from rfl)
  go_enter Try.func106, Try.ntmps106
  go_wp2_with (go_at_call 71; refine (cmp_any _ _ _).mono ?_; rintro e w' ⟨rfl, rfl⟩)
  go_ret
  exact ⟨by rw [hc.out]; rfl, 0, _, by rw [alloc_eq_grow, alloc_eq_grow, grow_grow]; rfl⟩
theorem sp_agg (w : World) : (isAgg 38).run Try.prog w = .ok true w := by kernel_rfl
theorem sp_size (w : World) : (Go.sizeOf 38).run Try.prog w = .ok 2 w := by kernel_rfl
set_option maxHeartbeats 2000000 in
/-- Spans sorted by their starts, in place. -/
theorem sortS_any (g n cap base : Nat) (l : List (Int × Int)) (w : World) (hl : l.length = n) (hn : n ≤ 1099511627776) (hown : Own senc 2 w base 38 (.slice (some ⟨g, 0, none⟩) n cap) l) :
    Calls Try.prog 105 #[.slice (some ⟨g, 0, none⟩) n cap, .func (.func 106) #[] #[]] w fun e w' => e = .returned (.tuple #[]) ∧
      ∃ l', l'.Perm l ∧ (l'.Pairwise fun a b => a.1 ≤ b.1) ∧ Own senc 2 w' base 38 (.slice (some ⟨g, 0, none⟩) n cap) l' ∧ w.grownBy w' (some g) := by
  have eg : ∀ args w, (callFunc 106 args).run Try.prog w = .ok (.enter 106 args) w := enters_of Try.func106 (by kernel_rfl) rfl
  have hcon := AnyQ.slices_SortFunc Try.sortSpan 2 sp_agg sp_size senc (fun _ => rfl) (fun x v hv => by simp [senc] at hv; rcases hv with rfl | rfl <;> rfl) cmpS swoS 106 #[] g 0 cap l.toArray w eg (fun _ _ _ _ x y => cloS_any x y _)
    (own_holds senc_len' hown hl.symm) (World.ownsRow.lt hown g rfl).2 (by simp; omega)
  change Calls Try.prog 105 _ _ _ at hcon
  rw [List.size_toArray, hl] at hcon
  refine hcon.mono ?_
  rintro e w' ⟨he, d', m, os, hp, hs, hw⟩
  have hsz : d'.size = n := by have := hp.1; simpa [hl] using this
  have hpl : d'.toList.Perm l := by
    have h := permIn_all (d := l.toArray) (d' := d') (by rw [List.size_toArray, hl]; exact hp)
    simpa using h
  have hso : d'.toList.Pairwise fun a b => ltOf cmpS b a = false := sortedIn_all (by rw [hsz]; exact hs)
  obtain ⟨o1, o2⟩ := own_sorted (l' := d'.toList) senc_len' hown hl.symm hpl.length_eq hw
  refine ⟨he, d'.toList, hpl, hso.imp (fun {a b} h => ?_), o1, o2⟩
  rw [ltS] at h
  simpa using h
end Go.Proofs.Ytbbdepeifdbbdaa

/- slices.SortFunc of no span: nothing turns. No condition. -/
namespace Go.Proofs.Ytbbdepeifdbbdaa
open Go.RowKit
theorem sortS_none (fv : Value) (w : World) : Calls Try.prog 105 #[.slice none 0 0, fv] w fun e w' => e = .returned (.tuple #[]) ∧ w' = w := by
  have h := AnyF.slices_SortFunc_none Try.sortSpan none 0 fv w
  exact h
end Go.Proofs.Ytbbdepeifdbbdaa

/- Rows of spans that the call itself made; an append that tells whether the row is a new one. No condition. -/
namespace Go.Proofs.Ytbbdepeifdbbdaa
open Go.RowKit

theorem sp_new (w : World) (x : Int × Int) (t : TypeId) (g : Nat) (hg : g = w.heap.size) : ∀ j u, ([x].flatMap senc)[j]? = some u → (w.alloc (.cells #[.int .i64 x.1, .int .i64 x.2] t)).cell? ((⟨g, 0, none⟩ : Addr).add j) = some u := by
  subst hg
  intro j u hj
  match j, hj with
  | 0, hj => simp [senc] at hj; subst hj; simp [Addr.add]
  | 1, hj => simp [senc] at hj; subst hj; simp [Addr.add]
theorem own_sp {w : World} {base : Nat} {e : TypeId} {g n cap : Nat} {l : List (Int × Int)} (h : Own senc 2 w base e (.slice (some ⟨g, 0, none⟩) n cap) l) {k : Nat} {x : Int × Int} (hx : l[k]? = some x) :
    w.cell? ⟨g, k * 2, none⟩ = some (.int .i64 x.1) ∧ w.cell? ⟨g, k * 2 + 1, none⟩ = some (.int .i64 x.2) ∧ g < w.heap.size := by
  obtain ⟨b, off, e, hb, c1, c2⟩ := span_cells (Own.rd senc_len h) hx
  rcases h.2 with ⟨h', _⟩ | ⟨g', cap', cur, h', _, hg, _⟩
  · cases h'
  · simp only [Option.some.injEq, Addr.mk.injEq, and_true] at e
    obtain ⟨rfl, rfl⟩ := e
    simp only [Nat.zero_add] at c1 c2
    exact ⟨c1, c2, hb⟩

theorem flat_set (v : Int) (x : Int × Int) : ∀ (l : List (Int × Int)) (i : Nat), l[i]? = some x → (l.flatMap senc).set (i * 2 + 1) (.int .i64 v) = (l.set i (x.1, v)).flatMap senc
  | [], i, h => by simp at h
  | y :: l, 0, h => by
    simp at h
    subst h
    simp [senc]
  | y :: l, i + 1, h => by
    rw [show (i + 1) * 2 + 1 = (i * 2 + 1) + 1 + 1 by omega, List.flatMap_cons, List.set_cons_succ, List.flatMap_cons, ← flat_set v x l i (by simpa using h)]
    simp [senc]
/-- The end of an element stored. -/
theorem own_end {w : World} {base : Nat} {e : TypeId} {g n cap : Nat} {l : List (Int × Int)} (h : Own senc 2 w base e (.slice (some ⟨g, 0, none⟩) n cap) l) (hn : n = l.length) {i : Nat} {x : Int × Int} (hx : l[i]? = some x) (v : Int) :
    Own senc 2 (w.setCell ⟨g, i * 2 + 1, none⟩ (.int .i64 v)) base e (.slice (some ⟨g, 0, none⟩) n cap) (l.set i (x.1, v)) ∧ w.grownBy (w.setCell ⟨g, i * 2 + 1, none⟩ (.int .i64 v)) (some g) := by
  subst hn
  obtain ⟨h1, h2⟩ := World.ownsRow.stored h (i * 2 + 1) (.int .i64 v)
  refine ⟨?_, h2⟩
  rw [flat_set v x l i hx] at h1
  unfold Own
  rw [List.length_set]
  exact h1

end Go.Proofs.Ytbbdepeifdbbdaa

/- The contracts of the sessions' right and of the reference's Right (chapter 15). Condition: lists of at most 2^40 spans. -/
namespace Go.Proofs.Ytbbdepeifdbbdaa
open Go.RowKit

end Go.Proofs.Ytbbdepeifdbbdaa
