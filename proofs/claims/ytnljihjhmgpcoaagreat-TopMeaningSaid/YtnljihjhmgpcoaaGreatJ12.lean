/- Lemmas and contracts for the statement, joined into one text: PaneMaps, PaneEnv. The conditions of each stand at its head. -/
import Derived.Test.YtnljihjhmgpcoaaGreatJ11
import Derived.Maps.OwnOps
import Derived.Maps.RangeWalk
namespace Go.Proofs.YtnljihjhmgpcoaaGreat
open Go Go.RowKit Go.ChangeMaps
def kvalP (k : Int × Int) : Value := .agg #[.int .i64 k.1, .int .i64 k.2]
def avalP (a : Acc) : Value := .agg #[.int .i64 a.c, .int .i64 a.s, .int .i64 a.m, .int .i64 a.x]
theorem eq_placeD (d : Nat) (a b : Int × Int) (w : World) : (Op.equalIn (d + 2) 104 (kvalP a) (kvalP b)).run Tryz.prog w = .ok (decide (a = b)) w := by
 unfold kvalP
 go_simp
 obtain ⟨a1, a2⟩ := a
 obtain ⟨b1, b2⟩ := b
 by_cases h1 : a1 = b1 <;> by_cases h2 : a2 = b2 <;> simp [h1, h2]
theorem eq_place (a b : Int × Int) (w : World) : (Op.equal 104 (kvalP a) (kvalP b)).run Tryz.prog w = .ok (decide (a = b)) w := by
 have h := eq_placeD 9998 a b w
 unfold Op.equal
 rw [show Op.maxDepth = 9998 + 2 from rfl]
 exact h
theorem chk_place (em : Bool) (a : Int × Int) (w : World) : (Instr.checkKey em 10000 104 (kvalP a)).run Tryz.prog w = .ok () w := by
 unfold kvalP
 kernel_rfl
/-- A map's entry, read. -/
def decE (e : MapEntry) : (Int × Int) × Acc := match e.key, e.val with
 | .agg #[.int _ a, .int _ b], .agg #[.int _ c, .int _ s, .int _ m, .int _ x] => ((a, b), ⟨c, s, m, x⟩)
 | _, _ => ((0, 0), acc0)
def goodE (e : MapEntry) : Prop := e.key = kvalP (decE e).1 ∧ e.val = avalP (decE e).2
theorem goodE_mk (k : Int × Int) (a : Acc) (n : Nat) : goodE ⟨kvalP k, avalP a, n⟩ := ⟨rfl, rfl⟩
def lookO (M : List ((Int × Int) × Acc)) (k : Int × Int) : Option Acc := (M.find? (fun p => decide (k = p.1))).map Prod.snd
theorem run_findP (k : Int × Int) (w : World) : ∀ (L : List MapEntry) (i : Nat), (∀ e ∈ L, goodE e) →
  (lookO (L.map decE) k = none ∧ (∀ e ∈ L, (decE e).1 ≠ k) ∧ (Instr.findAsking 104 (kvalP k) L i).run Tryz.prog w = .ok none w) ∨
  ∃ j e, L[j]? = some e ∧ (decE e).1 = k ∧ lookO (L.map decE) k = some (decE e).2 ∧ (Instr.findAsking 104 (kvalP k) L i).run Tryz.prog w = .ok (some (i + j, avalP (decE e).2)) w
 | [], i, _ => .inl ⟨rfl, by simp, by simp [Instr.findAsking]⟩
 | e :: L, i, hg => by
  have he := hg e (by simp)
  by_cases hk : k = (decE e).1
  ·right
   refine ⟨0, e, rfl, hk.symm, by simp [lookO, hk], ?_⟩
   simp only [Instr.findAsking, Sem.run_bind]
   rw [he.1, eq_place]
   simp [hk, Result.andThen, he.2]
  ·have hstep : (Instr.findAsking 104 (kvalP k) (e :: L) i).run Tryz.prog w = (Instr.findAsking 104 (kvalP k) L (i + 1)).run Tryz.prog w := by
    simp only [Instr.findAsking, Sem.run_bind]
    rw [he.1, eq_place]
    simp [hk, Result.andThen]
   have hl : lookO ((e :: L).map decE) k = lookO (L.map decE) k := by simp [lookO, hk]
   rw [hstep, hl]
   rcases run_findP k w L (i + 1) (fun x hx => hg x (by simp [hx])) with ⟨h1, h2, h3⟩ | ⟨j, x, h1, h2, h3, h4⟩
   ·exact .inl ⟨h1, fun x hx => by rcases List.mem_cons.1 hx with rfl | hx; exact fun h => hk h.symm; exact h2 x hx, h3⟩
   ·exact .inr ⟨j + 1, x, by simpa using h1, h2, h3, by rw [h4, show i + 1 + j = i + (j + 1) by omega]⟩
set_option maxRecDepth 100000 in
theorem run_findKeyP (k : Int × Int) (w : World) (L : List MapEntry) (hg : ∀ e ∈ L, goodE e) :
  (Instr.findKey 104 (kvalP k) L).run Tryz.prog w = (Instr.findAsking 104 (kvalP k) L 0).run Tryz.prog w := by
 have hu := Tryz.underlying104
 unfold Instr.findKey
 cases L with
 | nil => simp [run_underlying hu, Instr.findNow, Instr.findAsking]
 | cons e L =>
  have he := (hg e (by simp)).1
  simp only [Sem.run_bind, run_underlying hu, Result.andThen, Instr.findNow, Instr.sameNow]
/-- A map in memory: its entries, each of a key of its own. -/
def MapEs (es : Array MapEntry) (clock : Nat) (M : List ((Int × Int) × Acc)) : Prop :=
 (∀ e ∈ es.toList, goodE e) ∧ es.toList.map decE = M ∧ (es.toList.map (·.born)).Nodup ∧ (∀ x ∈ es.toList, x.born < clock) ∧ (M.map Prod.fst).Nodup
def MapAt (w : World) (B : Nat) (M : List ((Int × Int) × Acc)) : Prop := ∃ es clock, w.heap[B]? = some (.map es clock) ∧ MapEs es clock M
/-- A map that holds what a function says. -/
def MapF (w : World) (B : Nat) (f : Int × Int → Option Acc) : Prop := ∃ M, MapAt w B M ∧ ∀ k, lookO M k = f k
theorem MapF.kept {w w' : World} {B : Nat} {f : Int × Int → Option Acc} (h : MapF w B f) (hb : w'.heap[B]? = w.heap[B]?) : MapF w' B f := by
 obtain ⟨M, ⟨es, clock, h1, h2⟩, h3⟩ := h
 exact ⟨M, ⟨es, clock, hb.trans h1, h2⟩, h3⟩
theorem MapF.lt {w : World} {B : Nat} {f : Int × Int → Option Acc} (h : MapF w B f) : B < w.heap.size := by
 obtain ⟨M, ⟨es, clock, h1, _⟩, _⟩ := h
 exact (Array.getElem?_eq_some_iff.1 h1).1
theorem MapF.grown {w w' : World} {B : Nat} {row : Option Nat} {f : Int × Int → Option Acc} (h : MapF w B f) (hg : w.grownBy w' row) (hne : some B ≠ row) : MapF w' B f := h.kept (hg.block B h.lt hne)
theorem MapF.below {w w' : World} {B : Nat} {f : Int × Int → Option Acc} (h : MapF w B f) (hb : Below w.heap.size w w') : MapF w' B f := h.kept (hb.block B h.lt)
theorem MapF.made (w : World) : MapF (w.alloc (.map #[] 0)) w.heap.size (fun _ => none) :=
 ⟨[], ⟨#[], 0, heap_alloc_new w _, by simp, by simp, by simp, by simp, by simp⟩, fun _ => rfl⟩
/-- 'm[k]'. -/
theorem MapF.look {w : World} {B : Nat} {f : Int × Int → Option Acc} (h : MapF w B f) (k : Int × Int) : (Instr.lookup 100 (.map (some B)) (kvalP k) false).run Tryz.prog w = .ok (avalP ((f k).getD acc0)) w := by
 obtain ⟨M, ⟨es, clock, h1, h2, h3, _⟩, h4⟩ := h
 rw [← h4 k, ← h3]
 have hu := Tryz.underlying100
 rcases run_findP k w es.toList 0 h2 with ⟨e1, _, e3⟩ | ⟨j, x, _, _, e3, e4⟩
 ·rw [e1]
  simp [Instr.lookup, run_underlying hu, MapKept.run_getObj_map h1, chk_place, run_findKeyP k w _ h2, e3, Result.andThen]
  rfl
 ·rw [e3]
  simp [Instr.lookup, run_underlying hu, MapKept.run_getObj_map h1, chk_place, run_findKeyP k w _ h2, e4, Result.andThen]
theorem same_bits_place (k : Int × Int) : Instr.sameBits 10000 (kvalP k) (kvalP k) = true := by
 unfold kvalP
 simp [Instr.sameBits]
/-- 'm[k] = a'. -/
theorem MapF.put {w : World} {B : Nat} {f : Int × Int → Option Acc} (h : MapF w B f) (k : Int × Int) (a : Acc) :
  ∃ w', (Instr.mapUpdate 100 (.map (some B)) (kvalP k) (avalP a)).run Tryz.prog w = .ok () w' ∧ MapF w' B (fun k' => if k' = k then some a else f k') ∧ w.grownBy w' (some B) ∧ w'.heap.size = w.heap.size := by
 obtain ⟨M, ⟨es, clock, h1, h2, h3, h5, h6, h7⟩, h4⟩ := h
 have hu := Tryz.underlying100
 have hlt := (Array.getElem?_eq_some_iff.1 h1).1
 have hgb : ∀ o, w.grownBy (setBlock w B o) (some B) := fun o => ⟨rfl, rfl, rfl, by simp [setBlock], fun i hi hne => by
  unfold setBlock
  simp only [Array.getElem?_setIfInBounds]
  rw [if_neg (fun e => hne (by rw [e]))]⟩
 have hat : ∀ o, (setBlock w B o).heap[B]? = some o := fun o => by
  unfold setBlock
  simp [hlt]
 rcases run_findP k w es.toList 0 h2 with ⟨e1, e2, e3⟩ | ⟨j, x, e1, e2, e3, e4⟩
 ·refine ⟨setBlock w B (.map (es.push ⟨kvalP k, avalP a, clock⟩) (clock + 1)), ?_, ⟨M ++ [(k, a)], ⟨_, _, hat _, ?_, ?_, ?_, ?_, ?_⟩, fun k' => ?_⟩, hgb _, by simp [setBlock]⟩
  ·simp [Instr.mapUpdate, run_underlying hu, MapKept.run_getObj_map h1, chk_place, run_findKeyP k w _ h2, e3, MapKept.run_setObj_map _ h1, Result.andThen, setBlock]
  ·intro e he
   simp only [Array.toList_push, List.mem_append, List.mem_singleton] at he
   rcases he with he | rfl
   ·exact h2 e he
   ·exact goodE_mk k a clock
  ·rw [Array.toList_push, List.map_append, h3]; rfl
  ·rw [Array.toList_push, List.map_append, List.nodup_append]
   refine ⟨h5, by simp, fun b hb c hc => ?_⟩
   obtain ⟨y, hy, rfl⟩ := List.mem_map.1 hb
   simp at hc
   have := h6 y hy
   omega
  ·intro e he
   simp only [Array.toList_push, List.mem_append, List.mem_singleton] at he
   rcases he with he | rfl
   ·have := h6 e he; omega
   ·simp
  ·rw [List.map_append, List.nodup_append]
   refine ⟨h7, by simp, fun b hb c hc => ?_⟩
   simp at hc
   subst hc
   rw [← h3, List.map_map] at hb
   obtain ⟨y, hy, rfl⟩ := List.mem_map.1 hb
   exact e2 y hy
  ·show _ = if k' = k then some a else f k'
   rw [← h4 k']
   unfold lookO
   rw [List.find?_append]
   by_cases hk : k' = k
   ·subst hk
    rw [if_pos rfl]
    have hn : M.find? (fun p => decide (k' = p.1)) = none := by
     rw [h3] at e1
     unfold lookO at e1
     simpa using e1
    simp [hn]
   ·rw [if_neg hk]
    have : [(k, a)].find? (fun p => decide (k' = p.1)) = none := by simp [hk]
    rw [this, Option.or_none]
 ·have hj : es[j]? = some x := by simpa using e1
  have hjl : j < es.toList.length := (List.getElem?_eq_some_iff.1 e1).1
  have hxk : x.key = kvalP k := by rw [(h2 x (List.mem_of_getElem? e1)).1, e2]
  have hmod : (es.modify j fun e => { e with key := kvalP k, val := avalP a }).toList = es.toList.set j ⟨kvalP k, avalP a, x.born⟩ := by
   apply List.ext_getElem?
   intro i
   rw [List.getElem?_set]
   have e0 : (es.modify j fun e => { e with key := kvalP k, val := avalP a }).toList[i]? = (es.modify j fun e => { e with key := kvalP k, val := avalP a })[i]? := Array.getElem?_toList
   rw [e0, Array.getElem?_modify]
   by_cases hij : j = i
   ·subst hij
    rw [if_pos rfl, if_pos rfl, if_pos hjl, hj]
    rfl
   ·rw [if_neg hij, if_neg hij]
    simp
  refine ⟨setBlock w B (.map (es.modify j fun e => { e with key := kvalP k, val := avalP a }) clock), ?_, ⟨M.set j (k, a), ⟨_, _, hat _, ?_, ?_, ?_, ?_, ?_⟩, fun k' => ?_⟩, hgb _, by simp [setBlock]⟩
  ·simp [Instr.mapUpdate, run_underlying hu, MapKept.run_getObj_map h1, chk_place, run_findKeyP k w _ h2, e4, hj, hxk, Instr.keyThatStays, same_bits_place, MapKept.run_setObj_map _ h1, Result.andThen, setBlock]
  ·intro e he
   rw [hmod] at he
   rcases List.mem_or_eq_of_mem_set he with he | rfl
   ·exact h2 e he
   ·exact goodE_mk k a x.born
  ·rw [hmod, List.map_set, h3]; rfl
  ·rw [hmod, List.map_set]
   have : (es.toList.map (·.born)).set j x.born = es.toList.map (·.born) := by
    apply List.ext_getElem?
    intro i
    rw [List.getElem?_set]
    by_cases hij : j = i
    ·subst hij
     rw [if_pos rfl, if_pos (by simpa using hjl), List.getElem?_map, e1]; rfl
    ·rw [if_neg hij]
   show (List.set (es.toList.map (·.born)) j x.born).Nodup
   rw [this]; exact h5
  ·intro e he
   rw [hmod] at he
   rcases List.mem_or_eq_of_mem_set he with he | rfl
   ·exact h6 e he
   ·exact h6 x (List.mem_of_getElem? e1)
  ·rw [List.map_set]
   have : (M.map Prod.fst).set j k = M.map Prod.fst := by
    apply List.ext_getElem?
    intro i
    rw [List.getElem?_set]
    by_cases hij : j = i
    ·subst hij
     rw [if_pos rfl, if_pos (by rw [← h3]; simpa using hjl), ← h3, List.getElem?_map, List.getElem?_map, e1]
     simp [e2]
    ·rw [if_neg hij]
   show (List.set (M.map Prod.fst) j k).Nodup
   rw [this]; exact h7
  ·have hMj : M[j]? = some (k, (decE x).2) := by rw [← h3, List.getElem?_map, e1]; simp [← e2]
   show _ = if k' = k then some a else f k'
   rw [← h4 k']
   have huniq : ∀ (N : List ((Int × Int) × Acc)), (N.map Prod.fst).Nodup → ∀ (i : Nat) (q : Int × Int) (b : Acc), N[i]? = some (q, b) → lookO N q = some b := by
    intro N
    induction N with
    | nil => intro _ i q b h; simp at h
    | cons p N ih =>
     intro hn i q b hi
     rw [List.map_cons, List.nodup_cons] at hn
     cases i with
     | zero => simp at hi; subst hi; simp [lookO]
     | succ i =>
      have h1 : N[i]? = some (q, b) := by simpa using hi
      have h2 := ih hn.2 i q b h1
      have hne : q ≠ p.1 := fun e => hn.1 (by rw [← e]; exact List.mem_map.2 ⟨(q, b), List.mem_of_getElem? h1, rfl⟩)
      simpa [lookO, hne] using h2
   have hset : ((M.set j (k, a)).map Prod.fst).Nodup := by
    rw [List.map_set]
    have : (M.map Prod.fst).set j k = M.map Prod.fst := by
     apply List.ext_getElem?
     intro i
     rw [List.getElem?_set]
     by_cases hij : j = i
     ·subst hij
      rw [if_pos rfl, if_pos (by rw [← h3]; simpa using hjl), List.getElem?_map, hMj]; rfl
     ·rw [if_neg hij]
    show (List.set (M.map Prod.fst) j k).Nodup
    rw [this]; exact h7
   by_cases hk : k' = k
   ·subst hk
    rw [if_pos rfl]
    exact huniq _ hset j k' a (by rw [List.getElem?_set, if_pos rfl, if_pos (by rw [← h3]; simpa using hjl)])
   ·rw [if_neg hk]
    have hfind : ∀ (N : List ((Int × Int) × Acc)) (i : Nat) (b : Acc), N[i]? = some (k, b) → lookO (N.set i (k, a)) k' = lookO N k' := by
     intro N
     induction N with
     | nil => intro i b h; simp at h
     | cons p N ih =>
      intro i b hi
      cases i with
      | zero => simp at hi; subst hi; simp [lookO, hk]
      | succ i =>
       have h1 : N[i]? = some (k, b) := by simpa using hi
       have h2 := ih i b h1
       simp only [List.set_cons_succ, lookO, List.find?_cons]
       split
       ·rfl
       ·exact h2
    exact hfind M j _ hMj
theorem nodup_map_inj {α β : Type} {f : α → β} : ∀ {l : List α}, (l.map f).Nodup → l.Nodup ∧ ∀ x ∈ l, ∀ y ∈ l, f x = f y → x = y
 | [], _ => ⟨List.nodup_nil, by simp⟩
 | a :: l, h => by
  rw [List.map_cons, List.nodup_cons] at h
  obtain ⟨i1, i2⟩ := nodup_map_inj h.2
  refine ⟨List.nodup_cons.2 ⟨fun ha => h.1 (List.mem_map.2 ⟨a, ha, rfl⟩), i1⟩, fun x hx y hy hxy => ?_⟩
  rcases List.mem_cons.1 hx with e1 | h1 <;> rcases List.mem_cons.1 hy with e2 | h2
  ·rw [e1, e2]
  ·exact absurd (List.mem_map.2 ⟨y, h2, by rw [← hxy, e1]⟩) h.1
  ·exact absurd (List.mem_map.2 ⟨x, h1, by rw [hxy, e2]⟩) h.1
  ·exact i2 x h1 y h2 hxy
/-- A loop over a map, under way: what has come so far. -/
def RangeAt (w : World) (B r : Nat) (M done : List ((Int × Int) × Acc)) : Prop :=
 ∃ es clock seen since c0, w.heap[B]? = some (.map es clock) ∧ MapEs es clock M ∧ w.heap[r]? = some (.mapIter (some B) since seen c0) ∧ (∀ x ∈ es.toList, x.born < since) ∧ (since ≤ c0 ∧ since ≤ clock) ∧
  done.Perm ((es.toList.filter (fun e => seen.contains e.born)).map decE)
theorem RangeAt.kept {w w' : World} {B r : Nat} {M done : List ((Int × Int) × Acc)} (h : RangeAt w B r M done) (hB : w'.heap[B]? = w.heap[B]?) (hr : w'.heap[r]? = w.heap[r]?) : RangeAt w' B r M done := by
 obtain ⟨es, clock, seen, since, c0, h1, h2, h3, h4⟩ := h
 exact ⟨es, clock, seen, since, c0, hB.trans h1, h2, hr.trans h3, h4⟩
theorem RangeAt.lt {w : World} {B r : Nat} {M done : List ((Int × Int) × Acc)} (h : RangeAt w B r M done) : B < w.heap.size ∧ r < w.heap.size := by
 obtain ⟨es, clock, seen, since, c0, h1, _, h3, _⟩ := h
 exact ⟨(Array.getElem?_eq_some_iff.1 h1).1, (Array.getElem?_eq_some_iff.1 h3).1⟩
theorem RangeAt.grown {w w' : World} {B r : Nat} {row : Option Nat} {M done : List ((Int × Int) × Acc)} (h : RangeAt w B r M done) (hg : w.grownBy w' row) (h1 : some B ≠ row) (h2 : some r ≠ row) : RangeAt w' B r M done :=
 h.kept (hg.block B h.lt.1 h1) (hg.block r h.lt.2 h2)
theorem RangeAt.below {w w' : World} {B r : Nat} {M done : List ((Int × Int) × Acc)} (h : RangeAt w B r M done) (hb : Below w.heap.size w w') : RangeAt w' B r M done :=
 h.kept (hb.block B h.lt.1) (hb.block r h.lt.2)
/-- 'range m'. -/
theorem MapAt.range {w : World} {B : Nat} {M : List ((Int × Int) × Acc)} (h : MapAt w B M) :
  ∃ w', (Instr.range 100 (.map (some B))).run Tryz.prog w = .ok (.pointer (some ⟨w.heap.size, 0, none⟩)) w' ∧ RangeAt w' B w.heap.size M [] ∧ w.grownBy w' none ∧ w'.heap.size = w.heap.size + 1 := by
 obtain ⟨es, clock, h1, h2⟩ := h
 have hlt := (Array.getElem?_eq_some_iff.1 h1).1
 refine ⟨_, run_range_map w _ _ _ B es clock Tryz.underlying100 h1, ⟨es, clock, #[], clock, clock, (heap_alloc_old w _ hlt).trans h1, h2, heap_alloc_new w _, h2.2.2.2.1, ⟨Nat.le_refl _, Nat.le_refl _⟩, ?_⟩, World.grownBy_alloc w _ _, by simp⟩
 have : es.toList.filter (fun e => (#[] : Array Nat).contains e.born) = [] := List.filter_eq_nil_iff.2 (fun x _ => by simp)
 rw [this]
 exact List.Perm.refl _
/-- A step of the loop: all have come, or one more comes. -/
theorem RangeAt.next {w : World} {B r : Nat} {M done : List ((Int × Int) × Acc)} (h : RangeAt w B r M done) (hne : r ≠ B) (ty : TypeId) :
  (done.Perm M ∧ (Instr.next (.pointer (some ⟨r, 0, none⟩)) false ty).run Tryz.prog w = .ok (.tuple #[.bool false]) w) ∨
  ∃ p w1, p ∈ M ∧ RangeAt w1 B r M (done ++ [p]) ∧ done.length < M.length ∧ (Instr.next (.pointer (some ⟨r, 0, none⟩)) false ty).run Tryz.prog w = .ok (.tuple #[.bool true, kvalP p.1, avalP p.2]) w1 ∧
   w.grownBy w1 (some r) ∧ w1.heap.size = w.heap.size ∧ (Instr.entry (.pointer (some ⟨r, 0, none⟩))).run Tryz.prog w1 = .ok (.tuple #[kvalP p.1, avalP p.2]) w1 := by
 obtain ⟨es, clock, seen, since, c0, h1, h2, h3, h4, h5, h6⟩ := h
 obtain ⟨g1, g2, g3, g4, g5⟩ := h2
 have hltr := (Array.getElem?_eq_some_iff.1 h3).1
 rcases run_next_at (P := Tryz.prog) w ty r B since c0 seen es clock h3 h1 h4 h5.1 with ⟨n1, n2⟩ | ⟨e, he, w1, hw1, n2⟩
 ·left
  refine ⟨?_, n2⟩
  have hall : es.toList.filter (fun e => seen.contains e.born) = es.toList := by
   rw [List.filter_eq_self]
   intro x hx
   cases hq : seen.contains x.born with
   | true => rfl
   | false =>
    exfalso
    have hmem : x ∈ (leftOf es seen).toList := by
     unfold leftOf
     rw [Array.toList_filter, List.mem_filter]
     exact ⟨hx, by rw [hq]; rfl⟩
    have : (leftOf es seen).toList.length = 0 := by simpa using n1
    rw [List.eq_nil_of_length_eq_zero this] at hmem
    cases hmem
  rw [hall, g2] at h6
  exact h6
 ·right
  have he' : e ∈ es.toList ∧ seen.contains e.born = false := by
   unfold leftOf at he
   rw [Array.toList_filter, List.mem_filter] at he
   exact ⟨he.1, by simpa using he.2⟩
  obtain ⟨hem, hes⟩ := he'
  have hgood := g1 e hem
  have hB1 : w1.heap[B]? = w.heap[B]? := by rcases hw1 with rfl | rfl <;> rfl
  have hr1 : r < w1.heap.size := by rcases hw1 with rfl | rfl <;> exact hltr
  have hs1 : w1.heap.size = w.heap.size := by rcases hw1 with rfl | rfl <;> rfl
  have hB2 : (setBlock w1 r (.mapIter (some B) since (seen.push e.born) clock)).heap[B]? = some (.map es clock) := by
   unfold setBlock
   simp only [Array.getElem?_setIfInBounds]
   rw [if_neg hne, hB1, h1]
  have hr2 : (setBlock w1 r (.mapIter (some B) since (seen.push e.born) clock)).heap[r]? = some (.mapIter (some B) since (seen.push e.born) clock) := by
   unfold setBlock
   simp [hr1]
  have hnd : (es.toList.filter (fun x => seen.contains x.born) ++ [e]).Perm (es.toList.filter (fun x => (seen.push e.born).contains x.born)) := by
   have hnodup : es.toList.Nodup := (nodup_map_inj g3).1
   have hinj : ∀ x ∈ es.toList, x.born = e.born → x = e := fun x hx hb => (nodup_map_inj g3).2 x hx e hem hb
   refine (List.perm_ext_iff_of_nodup ?_ (hnodup.filter _)).2 (fun x => ?_)
   ·rw [List.nodup_append]
    refine ⟨hnodup.filter _, by simp, fun a ha b hb => ?_⟩
    simp at hb
    subst hb
    rintro rfl
    have := (List.mem_filter.1 ha).2
    rw [hes] at this
    cases this
   ·rw [List.mem_append, List.mem_singleton, List.mem_filter, List.mem_filter]
    constructor
    ·rintro (⟨hx, hc⟩ | rfl)
     ·exact ⟨hx, by simp at hc ⊢; exact .inl hc⟩
     ·exact ⟨hem, by simp⟩
    ·rintro ⟨hx, hc⟩
     simp at hc
     rcases hc with hc | hc
     ·exact .inl ⟨hx, by simpa using hc⟩
     ·exact .inr (hinj x hx hc)
  have hperm : (done ++ [decE e]).Perm ((es.toList.filter (fun x => (seen.push e.born).contains x.born)).map decE) := by
   refine (h6.append_right [decE e]).trans ?_
   have := hnd.map decE
   rw [List.map_append] at this
   exact this
  refine ⟨decE e, _, by rw [← g2]; exact List.mem_map.2 ⟨e, hem, rfl⟩, ⟨es, clock, seen.push e.born, since, clock, hB2, ⟨g1, g2, g3, g4, g5⟩, hr2, h4, ⟨h5.2, h5.2⟩, hperm⟩, ?_, ?_, ?_, by simp [setBlock, hs1], ?_⟩
  ·have h7 := hperm.length_eq
   rw [List.length_append, List.length_map] at h7
   have h8 := List.length_filter_le (fun x => (seen.push e.born).contains x.born) es.toList
   have h9 : M.length = es.toList.length := by rw [← g2, List.length_map]
   simp only [List.length_singleton] at h7
   omega
  ·rw [n2, ← hgood.1, ← hgood.2]
  ·refine ⟨by rcases hw1 with rfl | rfl <;> rfl, by rcases hw1 with rfl | rfl <;> rfl, by rcases hw1 with rfl | rfl <;> rfl, by simp [setBlock, hs1], fun i hi hne' => ?_⟩
   unfold setBlock
   simp only [Array.getElem?_setIfInBounds]
   rw [if_neg (fun e' => hne' (by rw [e']))]
   rcases hw1 with rfl | rfl <;> rfl
  ·rw [run_entry_at _ r B since seen es clock e hr2 hB2 hem g3, ← hgood.1, ← hgood.2]
section
variable (w : World) {ops : Array Oper} {rest : List Oper} {o : Oper} {a : Act} {Q : Exit → Act → World → Prop}
theorem wpList_putP (hg : o.guard = none) (m x v : Operand) (hop : o.op = Op.mapUpdate 100 m x v) (B : Nat) (f : Int × Int → Option Acc) (hm : a.eval m = .map (some B)) (hf : MapF w B f) (k : Int × Int) (c : Acc) (hx : a.eval x = kvalP k) (hv : a.eval v = avalP c)
  (hK : ∀ w', MapF w' B (fun k' => if k' = k then some c else f k') → w.grownBy w' (some B) → w'.heap.size = w.heap.size → wpList Tryz.prog ops Q rest (a.put o.dst undef) w') : wpList Tryz.prog ops Q (o :: rest) a w := by
 refine wpList_plain hg fun K' hK' => ?_
 obtain ⟨w', hrun, r1, r2, r3⟩ := hf.put k c
 unfold Oper.wp
 simp [execOp, hop, hm, hx, hv, hrun, Result.andThen]
 exact hK' _ _ (hK w' r1 r2 r3)
theorem wpList_rangeP (hg : o.guard = none) (m : Operand) (hop : o.op = Op.range 100 m) (B : Nat) (M : List ((Int × Int) × Acc)) (hm : a.eval m = .map (some B)) (hf : MapAt w B M)
  (hK : ∀ w', RangeAt w' B w.heap.size M [] → w.grownBy w' none → w'.heap.size = w.heap.size + 1 → wpList Tryz.prog ops Q rest (a.put o.dst (.pointer (some ⟨w.heap.size, 0, none⟩))) w') : wpList Tryz.prog ops Q (o :: rest) a w := by
 refine wpList_plain hg fun K' hK' => ?_
 obtain ⟨w', hrun, r1, r2, r3⟩ := hf.range
 unfold Oper.wp
 simp [execOp, hop, hm, hrun, Result.andThen]
 exact hK' _ _ (hK w' r1 r2 r3)
theorem wpList_nextP (hg : o.guard = none) (it : Operand) (hop : o.op = Op.next it false) (B r : Nat) (M done : List ((Int × Int) × Acc)) (hit : a.eval it = .pointer (some ⟨r, 0, none⟩)) (h : RangeAt w B r M done) (hne : r ≠ B)
  (hDone : done.Perm M → wpList Tryz.prog ops Q rest (a.put o.dst (.tuple #[.bool false])) w)
  (hMore : ∀ (k s c t m x : Int) (w1 : World), ((k, s), (⟨c, t, m, x⟩ : Acc)) ∈ M → RangeAt w1 B r M (done ++ [((k, s), ⟨c, t, m, x⟩)]) → done.length < M.length → w.grownBy w1 (some r) → w1.heap.size = w.heap.size →
   (Instr.entry (.pointer (some ⟨r, 0, none⟩))).run Tryz.prog w1 = .ok (.tuple #[.agg #[.int .i64 k, .int .i64 s], .agg #[.int .i64 c, .int .i64 t, .int .i64 m, .int .i64 x]]) w1 →
   wpList Tryz.prog ops Q rest (a.put o.dst (.tuple #[.bool true, .agg #[.int .i64 k, .int .i64 s], .agg #[.int .i64 c, .int .i64 t, .int .i64 m, .int .i64 x]])) w1) : wpList Tryz.prog ops Q (o :: rest) a w := by
 refine wpList_plain hg fun K' hK' => ?_
 unfold Oper.wp
 rcases h.next hne o.type with ⟨h0, hrun⟩ | ⟨⟨⟨k, s⟩, ⟨c, t, m, x⟩⟩, w1, h1, h2, h3, hrun, h4, h5, h6⟩
 ·simp [execOp, hop, hit, hrun, Result.andThen]
  exact hK' _ _ (hDone h0)
 ·simp [execOp, hop, hit, hrun, Result.andThen]
  exact hK' _ _ (hMore k s c t m x w1 h1 h2 h3 h4 h5 h6)
end
end Go.Proofs.YtnljihjhmgpcoaaGreat
namespace Go.Proofs.YtnljihjhmgpcoaaGreat
open Go Go.RowKit
/-- What a region's walk keeps, and a map. -/
def EnvM (w0 : World) (L : List (Nat × List Value)) (B : Nat) (f : Int × Int → Option Acc) (w : World) : Prop := Env w0 L w ∧ MapF w B f
section
variable {w0 W w' Y : World} {L : List (Nat × List Value)} {B : Nat} {f : Int × Int → Option Acc}
theorem EnvM.step (hb : Below W.heap.size W w') (h : EnvM w0 L B f W) : EnvM w0 L B f w' := ⟨Env.step hb h.1, h.2.below hb⟩
theorem EnvM.old (h : EnvM w0 L B f W) (o : Obj) : EnvM w0 L B f (W.alloc o) := h.step ((Below.refl _ _).alloc (Nat.le_refl _) o)
theorem EnvM.drew (h : EnvM w0 L B f W) : EnvM w0 L B f W.drew := h.step (below_drew (Below.refl _ _))
theorem EnvM.far0 (h : EnvM w0 L B f W) (h' : EnvM w0 L B f Y) (v : Value) {i : Nat} : EnvM w0 L B f (W.setCell ⟨Y.heap.size, i, none⟩ v) :=
 ⟨h.1.far0 h'.1 v, h.2.kept (Below.heap_setCell _ _ _ _ (Nat.ne_of_lt h'.2.lt))⟩
end
theorem Env.grownB {w0 W w' : World} {L : List (Nat × List Value)} {B : Nat} (h : Env w0 L W) (hg : W.grownBy w' (some B)) (hB : w0.heap.size ≤ B) (hne : ∀ q ∈ L, q.1 ≠ B) : Env w0 L w' :=
 ⟨h.1.grown hg h.1.size (fun k hk => by injection hk with hk; omega), Loc.grown hg (fun q hq e => hne q hq (by injection e)) h.2⟩
theorem Loc.tl {w : World} {x : Nat × List Value} {l : List (Nat × List Value)} (h : Loc w (x :: l)) : Loc w l := by obtain ⟨b, cs⟩ := x; exact h.2.2.2
theorem MapAt.kept {w w' : World} {B : Nat} {M : List ((Int × Int) × Acc)} (h : MapAt w B M) (hb : w'.heap[B]? = w.heap[B]?) : MapAt w' B M := by
 obtain ⟨es, clock, h1, h2⟩ := h
 exact ⟨es, clock, hb.trans h1, h2⟩
theorem MapAt.below {w w' : World} {B : Nat} {M : List ((Int × Int) × Acc)} (h : MapAt w B M) (hb : Below w.heap.size w w') : MapAt w' B M := by
 have hlt : B < w.heap.size := by
  obtain ⟨es, clock, h1, _⟩ := h
  exact (Array.getElem?_eq_some_iff.1 h1).1
 exact h.kept (hb.block B hlt)
theorem MapAt.nodup {w : World} {B : Nat} {M : List ((Int × Int) × Acc)} (h : MapAt w B M) : (M.map Prod.fst).Nodup := by
 obtain ⟨es, clock, _, h2⟩ := h
 exact h2.2.2.2.2
theorem RangeAt.sub {w : World} {B r : Nat} {M D : List ((Int × Int) × Acc)} (h : RangeAt w B r M D) : ∃ E, E.Sublist M ∧ D.Perm E := by
 obtain ⟨es, clock, seen, since, c0, h1, h2, h3, _, _, h6⟩ := h
 exact ⟨_, by rw [← h2.2.1]; exact List.filter_sublist.map _, h6⟩
/-- How many have come. -/
def doneN (w : World) (B r : Nat) : Nat := match w.heap[B]?, w.heap[r]? with
 | some (.map es _), some (.mapIter _ _ seen _) => (es.toList.filter (fun e => seen.contains e.born)).length
 | _, _ => 0
theorem RangeAt.doneN {w : World} {B r : Nat} {M D : List ((Int × Int) × Acc)} (h : RangeAt w B r M D) : doneN w B r = D.length := by
 obtain ⟨es, clock, seen, since, c0, h1, _, h3, _, _, h6⟩ := h
 unfold Go.Proofs.YtnljihjhmgpcoaaGreat.doneN
 rw [h1, h3]
 have := h6.length_eq
 rw [List.length_map] at this
 exact this.symm
theorem oper_putP {w : World} {o : Oper} {a : Act} {Q : Exit → Act → World → Prop} {K : Act → World → Prop} (m x v : Operand) (hop : o.op = Op.mapUpdate 100 m x v) (B : Nat) (f : Int × Int → Option Acc) (hm : a.eval m = .map (some B)) (hf : MapF w B f) (k : Int × Int) (c : Acc) (hx : a.eval x = kvalP k) (hv : a.eval v = avalP c)
  (hK : ∀ w', MapF w' B (fun k' => if k' = k then some c else f k') → w.grownBy w' (some B) → w'.heap.size = w.heap.size → K (a.put o.dst undef) w') : Oper.wp Tryz.prog o a w K Q := by
 obtain ⟨w', hrun, r1, r2, r3⟩ := hf.put k c
 unfold Oper.wp
 simp [execOp, hop, hm, hx, hv, hrun, Result.andThen]
 exact hK w' r1 r2 r3
end Go.Proofs.YtnljihjhmgpcoaaGreat
