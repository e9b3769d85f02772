/- The order of rows and of records, and slices.SortFunc by it (chapter 34). Condition: fewer than 2^40 of them. -/
import Derived.Test.YtffehibdeogjeaaKitG
import Derived.Test.YtffehibdeogjeaaSortLaid
import Derived.Test.YtffehibdeogjeaaKitA
import Derived.Test.YtffehibdeogjeaaKitC
import Derived.StillTailTactics
import Derived.Laws.AppendOwnNone
import Derived.Laws.CopyRow
import Derived.Laws.MakeOwn
import Derived.SizedLaws
import Derived.Lib.SliceRun
import Derived.Shelf.SlSortCmp.WholeK
import Derived.Shelf.SlSortCmp.NoneTotal
namespace Go.Proofs.Ytffehibdeogjeaa
open Go.RowKit Go.Sort Go.Shelf

/-- A record. -/
structure Rc where
  k : Int
  t : Int
  v : Int
deriving DecidableEq
instance : Inhabited Rc := ⟨⟨0, 0, 0⟩⟩
def r0 : Rc := ⟨0, 0, 0⟩
def renc (r : Rc) : List Value := [.int .i64 r.k, .int .i64 r.t, .int .i64 r.v]
/-- A row: key, span, both values. -/
structure Rw where
  k : Int
  s : Int
  e : Int
  a : Int
  b : Int
deriving DecidableEq
instance : Inhabited Rw := ⟨⟨0, 0, 0, 0, 0⟩⟩
def w0 : Rw := ⟨0, 0, 0, 0, 0⟩
def wenc (r : Rw) : List Value := [.int .i64 r.k, .int .i64 r.s, .int .i64 r.e, .int .i64 r.a, .int .i64 r.b]
theorem renc_len (r : Rc) : (renc r).length = 3 := rfl
theorem wenc_len (r : Rw) : (wenc r).length = 5 := rfl
theorem renc_one (l : List Rc) : ∀ u ∈ l.flatMap renc, u.oneCell' = true := by
  intro u hu
  obtain ⟨x, _, hx⟩ := List.mem_flatMap.1 hu
  simp [renc] at hx
  rcases hx with rfl | rfl | rfl <;> rfl
theorem wenc_one (l : List Rw) : ∀ u ∈ l.flatMap wenc, u.oneCell' = true := by
  intro u hu
  obtain ⟨x, _, hx⟩ := List.mem_flatMap.1 hu
  simp [wenc] at hx
  rcases hx with rfl | rfl | rfl | rfl | rfl <;> rfl
def rcmp (x y : Rc) : Int := orL [cmpI x.t y.t, cmpI x.k y.k, cmpI x.v y.v]
def wcmp (x y : Rw) : Int := orL [cmpI x.e y.e, cmpI x.s y.s, cmpI x.k y.k, cmpI x.a y.a, cmpI x.b y.b]
def rlt (x y : Rc) : Bool := decide (x.t < y.t ∨ (x.t = y.t ∧ (x.k < y.k ∨ (x.k = y.k ∧ x.v < y.v))))
def wlt (x y : Rw) : Bool := decide (x.e < y.e ∨ (x.e = y.e ∧ (x.s < y.s ∨ (x.s = y.s ∧ (x.k < y.k ∨ (x.k = y.k ∧ (x.a < y.a ∨ (x.a = y.a ∧ x.b < y.b))))))))
theorem rsto : STO rlt where
  irr a := by simp [rlt]
  tr a b c h1 h2 := by simp [rlt] at *; omega
  tri a b h1 h2 := by
    obtain ⟨a1, a2, a3⟩ := a
    obtain ⟨b1, b2, b3⟩ := b
    simp [rlt] at *; omega
theorem wsto : STO wlt where
  irr a := by simp [wlt]
  tr a b c h1 h2 := by simp only [wlt, decide_eq_true_eq] at *; omega
  tri a b h1 h2 := by
    obtain ⟨a1, a2, a3, a4, a5⟩ := a
    obtain ⟨b1, b2, b3, b4, b5⟩ := b
    simp only [wlt, decide_eq_false_iff_not] at *
    simp only [Rw.mk.injEq]
    omega
theorem orL_cmp (a b : Int) (xs : List Int) : (orL (cmpI a b :: xs) < 0) ↔ a < b ∨ (a = b ∧ orL xs < 0) := by
  rcases Int.lt_trichotomy a b with h | h | h
  · rw [show cmpI a b = -1 by unfold cmpI; rw [if_pos h], show orL (-1 :: xs) = -1 by rw [orL]; simp]
    omega
  · rw [show cmpI a b = 0 by unfold cmpI; rw [if_neg (by omega), if_neg (by omega)], show orL (0 :: xs) = orL xs by rw [orL]; simp]
    omega
  · rw [show cmpI a b = 1 by unfold cmpI; rw [if_neg (by omega), if_pos h], show orL (1 :: xs) = 1 by rw [orL]; simp]
    omega
theorem orL_nil : ¬ orL [] < 0 := by simp [orL]
theorem ltR (x y : Rc) : ltOf rcmp x y = rlt x y := by
  unfold ltOf rcmp rlt
  rw [decide_eq_decide, orL_cmp, orL_cmp, orL_cmp]
  simp only [orL_nil, and_false, or_false]
theorem ltW (x y : Rw) : ltOf wcmp x y = wlt x y := by
  unfold ltOf wcmp wlt
  rw [decide_eq_decide, orL_cmp, orL_cmp, orL_cmp, orL_cmp, orL_cmp]
  simp only [orL_nil, and_false, or_false]
theorem swo_of {α : Type} {lt : α → α → Bool} (h : STO lt) {cf : α → α → Int} (he : ∀ x y, ltOf cf x y = lt x y) : SWO (ltOf cf) where
  irrefl x := by rw [he]; exact h.irr x
  trans x y z h1 h2 := by rw [he] at *; exact h.tr _ _ _ h1 h2
  ntrans x y z h1 h2 := by rw [he] at *; exact h.le h1 h2

set_option maxHeartbeats 4000000 in
set_option maxRecDepth 100000 in
theorem cloR_any (x y : Rc) (W : World) : Calls Try.prog 85 #[.agg #[.int .i64 x.k, .int .i64 x.t, .int .i64 x.v], .agg #[.int .i64 y.k, .int .i64 y.t, .int .i64 y.v]] W fun e w' => e = .returned (.int .i64 (rcmp x y)) ∧ ∃ q os', w' = grow (W.drewN q) os' := by
  have hor := Lib.hid (show orL [cmpI x.t y.t, cmpI x.k y.k, cmpI x.v y.v] = rcmp x y from rfl)
  go_enter Try.func85, Try.ntmps85
  go_wp2_with fail
  refine region_still_tail 15 (by kernel_rfl) (by kernel_rfl) ?_
  simp only [List.take_succ_cons, List.take_zero, List.drop_succ_cons, List.drop_zero]
  repeat still_step
  still_call (cmp_still _ _ _)
  repeat still_step
  still_call (cmp_still _ _ _)
  repeat still_step
  still_call (cmp_still _ _ _)
  repeat still_step
  refine wpStill_nil ?_
  go_wp2_with (first
      | (go_at_call 86; refine (or3 (cmpI x.t y.t) (cmpI x.k y.k) (cmpI x.v y.v) _ _ (by simp) (by go_simp) (by go_simp) (by go_simp)).mono ?_; rintro e w1 ⟨rfl, rfl⟩))
  go_ret
  exact ⟨ret_i64 hor.out, 1, _, by rw [alloc_eq_grow, alloc_eq_grow, alloc_eq_grow, grow_grow, grow_grow]; rfl⟩
set_option maxHeartbeats 4000000 in
set_option maxRecDepth 100000 in
theorem cmpW_any (x y : Rw) (W : World) : Calls Try.prog 88 #[.agg #[.int .i64 x.k, .int .i64 x.s, .int .i64 x.e, .int .i64 x.a, .int .i64 x.b], .agg #[.int .i64 y.k, .int .i64 y.s, .int .i64 y.e, .int .i64 y.a, .int .i64 y.b]] W fun e w' => e = .returned (.int .i64 (wcmp x y)) ∧ ∃ q os', w' = grow (W.drewN q) os' := by
  have hor := Lib.hid (show orL [cmpI x.e y.e, cmpI x.s y.s, cmpI x.k y.k, cmpI x.a y.a, cmpI x.b y.b] = wcmp x y from rfl)
  go_enter Try.func88, Try.ntmps88
  go_wp2_with fail
  refine region_still_tail 33 (by kernel_rfl) (by kernel_rfl) ?_
  simp only [List.take_succ_cons, List.take_zero, List.drop_succ_cons, List.drop_zero]
  repeat still_step
  still_call (cmp_still _ _ _)
  repeat still_step
  still_call (cmp_still _ _ _)
  repeat still_step
  still_call (cmp_still _ _ _)
  repeat still_step
  still_call (cmp_still _ _ _)
  repeat still_step
  still_call (cmp_still _ _ _)
  repeat still_step
  refine wpStill_nil ?_
  go_wp2_with (first
      | (go_at_call 86; refine (or5 (cmpI x.e y.e) (cmpI x.s y.s) (cmpI x.k y.k) (cmpI x.a y.a) (cmpI x.b y.b) _ _ (by simp) (by go_simp) (by go_simp) (by go_simp) (by go_simp) (by go_simp)).mono ?_; rintro e w1 ⟨rfl, rfl⟩))
  go_ret
  exact ⟨ret_i64 hor.out, 1, _, by rw [alloc_eq_grow, alloc_eq_grow, alloc_eq_grow, grow_grow, grow_grow]; rfl⟩
theorem grow_two (W : World) (o1 o2 : Obj) (q : Nat) (os : Array Obj) : ∃ os', grow (((W.alloc o1).alloc o2).drewN q) os = grow (W.drewN q) os' := by
  refine ⟨#[o1] ++ #[o2] ++ os, ?_⟩
  rw [alloc_eq_grow, alloc_eq_grow, grow_grow]
  show grow (grow (W.drewN q) _) os = _
  rw [grow_grow]
set_option maxHeartbeats 2000000 in
set_option maxRecDepth 100000 in
theorem cloW_any (x y : Rw) (p : Addr) (W : World) (hp : p = ⟨p.block, p.off, none⟩) (hlt : p.block < W.heap.size) (hc : W.cell? p = some (.func (.func 88) #[] #[])) :
    Calls Try.prog 90 #[.agg #[.int .i64 x.k, .int .i64 x.s, .int .i64 x.e, .int .i64 x.a, .int .i64 x.b], .agg #[.int .i64 y.k, .int .i64 y.s, .int .i64 y.e, .int .i64 y.a, .int .i64 y.b], .pointer (some p)] W fun e w' => e = .returned (.int .i64 (wcmp x y)) ∧ ∃ q os', w' = grow (W.drewN q) os' := by
  obtain ⟨b, o, q⟩ := p
  dsimp only at hp hlt
  obtain rfl : q = none := by injection hp
  clear hp
  go_enter Try.func90, Try.ntmps90
  go_wp2_with (go_at_call 88; refine (cmpW_any x y _).mono ?_; rintro e w1 ⟨rfl, q1, os1, rfl⟩)
  go_ret
  exact ⟨rfl, q1, grow_two _ _ _ _ _⟩
theorem rc_agg (w : World) : (isAgg 69).run Try.prog w = .ok true w := by kernel_rfl
theorem rc_size (w : World) : (Go.sizeOf 69).run Try.prog w = .ok 3 w := by kernel_rfl
theorem rw_agg (w : World) : (isAgg 72).run Try.prog w = .ok true w := by kernel_rfl
theorem rw_size (w : World) : (Go.sizeOf 72).run Try.prog w = .ok 5 w := by kernel_rfl
theorem srt_of {α : Type} {lt : α → α → Bool} {cf : α → α → Int} (he : ∀ x y, ltOf cf x y = lt x y) {l : List α} (h : l.Pairwise fun a b => ltOf cf b a = false) : Srt lt l := h.imp (fun {a b} hab => by rw [he] at hab; exact hab)

set_option maxHeartbeats 2000000 in
/-- Records sorted, in place. -/
theorem sortR_any (g n cap base : Nat) (l : List Rc) (w : World) (hl : l.length = n) (hn : n ≤ 1099511627776) (hown : Own renc 3 w base 69 (.slice (some ⟨g, 0, none⟩) n cap) l) :
    Calls Try.prog 120 #[.slice (some ⟨g, 0, none⟩) n cap, .func (.func 85) #[] #[]] w fun e w' => e = .returned (.tuple #[]) ∧
      Own renc 3 w' base 69 (.slice (some ⟨g, 0, none⟩) n cap) (sortL rlt r0 l) ∧ w.grownBy w' (some g) := by
  have eg : ∀ args w, (callFunc 85 args).run Try.prog w = .ok (.enter 85 args) w := enters_of Try.func85 (by kernel_rfl) rfl
  have hcon := AnyQ.slices_SortFunc Try.sortRec 3 rc_agg rc_size renc (fun _ => rfl) (fun x v hv => by simp [renc] at hv; rcases hv with rfl | rfl | rfl <;> rfl) rcmp (swo_of rsto ltR) 85 #[] g 0 cap l.toArray w eg (fun _ _ _ _ x y => cloR_any x y _)
    (own_holds renc_len hown hl.symm) (World.ownsRow.lt hown g rfl).2 (by simp; omega)
  change Calls Try.prog 120 _ _ _ at hcon
  rw [List.size_toArray, hl] at hcon
  refine hcon.mono ?_
  rintro e w' ⟨he, d', m, os, hp, hs, hw⟩
  have hsz : d'.size = n := by have := hp.1; simpa [hl] using this
  have hpl : d'.toList.Perm l := by
    have h := permIn_all (d := l.toArray) (d' := d') (by rw [List.size_toArray, hl]; exact hp)
    simpa using h
  have hso : Srt rlt d'.toList := srt_of ltR (sortedIn_all (by rw [hsz]; exact hs))
  obtain ⟨o1, o2⟩ := own_sorted (l' := d'.toList) renc_len hown hl.symm hpl.length_eq hw
  rw [← sortL_eq rsto r0 hpl.symm hso] at o1
  exact ⟨he, o1, o2⟩
theorem sort_keeps {α : Type} [Inhabited α] {enc : α → List Value} {k : Nat} {w : World} {g m : Nat} {d : Array α} {os : Array Obj} {b : Nat} (hne : b ≠ g) (hb : b < w.heap.size) : (sortWorldK enc k w g 0 m d os).heap[b]? = w.heap[b]? := by
  have hsize : (putRowK enc k (Go.Sort.ahead w m) g 0 d).heap.size = w.heap.size := by simp [putRowK, putRow, mapBlock, Go.Sort.ahead]
  unfold sortWorldK grow
  show ((putRowK enc k (Go.Sort.ahead w m) g 0 d).heap ++ os)[b]? = _
  rw [Array.getElem?_append_left (by rw [hsize]; exact hb)]
  simp [putRowK, putRow, mapBlock, Go.Sort.ahead, Array.getElem?_modify, Ne.symm hne]
theorem sort_size {α : Type} [Inhabited α] {enc : α → List Value} {k : Nat} {w : World} {g m : Nat} {d : Array α} {os : Array Obj} : w.heap.size ≤ (sortWorldK enc k w g 0 m d os).heap.size := by
  have hsize : (putRowK enc k (Go.Sort.ahead w m) g 0 d).heap.size = w.heap.size := by simp [putRowK, putRow, mapBlock, Go.Sort.ahead]
  unfold sortWorldK grow
  show w.heap.size ≤ ((putRowK enc k (Go.Sort.ahead w m) g 0 d).heap ++ os).size
  rw [Array.size_append, hsize]
  omega
set_option maxHeartbeats 2000000 in
/-- Rows sorted, in place. -/
theorem sortW_any (g n cap base : Nat) (b o : Nat) (l : List Rw) (w : World) (hl : l.length = n) (hn : n ≤ 1099511627776) (hown : Own wenc 5 w base 72 (.slice (some ⟨g, 0, none⟩) n cap) l)
    (hb : b < w.heap.size) (hne : b ≠ g) (hc : w.cell? ⟨b, o, none⟩ = some (.func (.func 88) #[] #[])) :
    Calls Try.prog 123 #[.slice (some ⟨g, 0, none⟩) n cap, .func (.func 90) #[] #[.pointer (some ⟨b, o, none⟩)]] w fun e w' => e = .returned (.tuple #[]) ∧
      Own wenc 5 w' base 72 (.slice (some ⟨g, 0, none⟩) n cap) (sortL wlt w0 l) ∧ w.grownBy w' (some g) := by
  have eg : ∀ args w, (callFunc 90 args).run Try.prog w = .ok (.enter 90 args) w := enters_of Try.func90 (by kernel_rfl) rfl
  have hcon := AnyQ.slices_SortFunc Try.sortRow 5 rw_agg rw_size wenc (fun _ => rfl) (fun x v hv => by simp [wenc] at hv; rcases hv with rfl | rfl | rfl | rfl | rfl <;> rfl) wcmp (swo_of wsto ltW) 90 #[.pointer (some ⟨b, o, none⟩)] g 0 cap l.toArray w eg
    (fun m os dk _ x y => cloW_any x y ⟨b, o, none⟩ _ rfl (Nat.lt_of_lt_of_le hb sort_size) ((World.cell?_of_block (a := ⟨b, o, none⟩) (sort_keeps hne hb)).trans hc))
    (own_holds wenc_len hown hl.symm) (World.ownsRow.lt hown g rfl).2 (by simp; omega)
  change Calls Try.prog 123 _ _ _ at hcon
  rw [List.size_toArray, hl] at hcon
  refine hcon.mono ?_
  rintro e w' ⟨he, d', m, os, hp, hs, hw⟩
  have hsz : d'.size = n := by have := hp.1; simpa [hl] using this
  have hpl : d'.toList.Perm l := by
    have h := permIn_all (d := l.toArray) (d' := d') (by rw [List.size_toArray, hl]; exact hp)
    simpa using h
  have hso : Srt wlt d'.toList := srt_of ltW (sortedIn_all (by rw [hsz]; exact hs))
  obtain ⟨o1, o2⟩ := own_sorted (l' := d'.toList) wenc_len hown hl.symm hpl.length_eq hw
  rw [← sortL_eq wsto w0 hpl.symm hso] at o1
  exact ⟨he, o1, o2⟩
end Go.Proofs.Ytffehibdeogjeaa
