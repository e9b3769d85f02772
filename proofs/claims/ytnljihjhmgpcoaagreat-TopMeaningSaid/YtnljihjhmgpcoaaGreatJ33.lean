/- Lemmas and contracts for the statement, joined into one text: ClauseSrc, KindTakes, KindTold, KindFuncs, EvalsOf. The conditions of each stand at its head. -/
import Derived.Test.YtnljihjhmgpcoaaGreatJ31
import Derived.Test.YtnljihjhmgpcoaaGreatJ11
import Derived.Maps.OwnOps
import Derived.Maps.OwnSet
import Derived.Test.YtnljihjhmgpcoaaGreatJ32
namespace Go.Proofs.YtnljihjhmgpcoaaGreat
open Go.RowKit Go.ChangeShapes Go.WideShapes Go.ChangeAt Go.Deep
open Go.Maps
theorem outside_any (s : Int) (h : 0 ≤ s ∧ s ≤ 3) (w : World) : Calls Tryz.prog 121 #[.int .i64 s] w fun e w' => e = .returned (.bool false) ∧ w = w' := by
 obtain ⟨h1, h2⟩ := h
 have d1 : decide (s < 0) = false := by simp; omega
 have d2 : decide (4 ≤ s) = false := by simp; omega
 go_enter Tryz.func121, Tryz.ntmps121
 go_wp2
 go_ret
 exact ⟨rfl, rfl⟩
set_option maxHeartbeats 4000000 in
set_option maxRecDepth 100000 in
theorem inindex_any (A : Option Addr) (c n : Nat) (l : List Int) (w : World) (hn : l.length = n) (h4 : n ≤ 4) (hl : ∀ x ∈ l, 0 ≤ x ∧ x ≤ 3) (hr : Rd ienc 1 w w.heap.size A l) :
  Calls Tryz.prog 144 #[.slice A n c, .func (.func 121) #[] #[]] w fun e w' => e = .returned (.int .i64 (-1)) ∧ w = w' := by
 have HN := Lib.hid hn; have HLL := Lib.hid hl
 clear hn hl
 go_enter Tryz.func144, Tryz.ntmps144
 go_wp2_with fail
 go_loop [8] (fun i => ∃ k : Nat, k ≤ n ∧ i = .int .i64 k) (fun i => n - (intOf i).toNat)
 case atStart => exact ⟨0, Nat.zero_le _, rfl⟩
 case round =>
  obtain ⟨k, hk, rfl⟩ := hrel
  by_cases hlt : k < n
  ·obtain ⟨y, hy⟩ : ∃ y, l[k]? = some y := ⟨_, List.getElem?_eq_getElem (by rw [HN.out]; exact hlt)⟩
   obtain ⟨b, off, rfl, hbb, f0⟩ : ∃ b off, A = some ⟨b, off, none⟩ ∧ b < w.heap.size ∧ w.cell? ⟨b, off + k, none⟩ = some (.int .i64 y) := by
    obtain ⟨b, off, e, hb, hc⟩ := hr.at_ hy
    exact ⟨b, off, e, hb, by simpa using hc 0 _ rfl⟩
   have hyr := HLL.out y (List.mem_of_getElem? hy)
   have d1 : decide ((k : Int) < (n : Int)) = true := by simp; omega
   have d1' : decide (k < n) = true := by simp [hlt]
   have k1 : (0 : Int) ≤ (k : Int) := by omega
   have k2 : (k : Int) < (n : Int) := by omega
   have HO := Lib.hid (outside_any y hyr w)
   have HL := Lib.hid hlt
   clear hyr hy hlt
   go_wp2_with fail
   go_at_call 121
   refine HO.out.mono ?_
   rintro r w2 ⟨rfl, rfl⟩
   go_wp2_with fail
   go_round
   case rel => exact ⟨k + 1, HL.out, by go_num⟩
   case measure => simp [intOf]; omega
  ·obtain rfl : k = n := by omega
   have d1 : decide ((k : Int) < (k : Int)) = false := by simp
   have d1' : decide (k < k) = false := by simp
   go_wp2_with fail
   go_ret
   exact ⟨rfl, rfl⟩
theorem inhas_any (A : Option Addr) (c n : Nat) (l : List Int) (w : World) (hn : l.length = n) (h4 : n ≤ 4) (hl : ∀ x ∈ l, 0 ≤ x ∧ x ≤ 3) (hr : Rd ienc 1 w w.heap.size A l) :
  Calls Tryz.prog 122 #[.slice A n c, .func (.func 121) #[] #[]] w fun e w' => e = .returned (.bool false) ∧ w = w' := by
 have H := Lib.hid (inindex_any A c n l w hn h4 hl hr)
 clear hn hl
 go_enter Tryz.func122, Tryz.ntmps122
 go_wp2_with fail
 go_at_call 144
 refine H.out.mono ?_
 rintro r w2 ⟨rfl, rfl⟩
 go_wp2_with fail
 go_ret
 exact ⟨rfl, rfl⟩
def tru : DataW Unit := .lit (.bool true)
def srcD (l : List Int) : DataW Unit := Maps.setOf tru (l.map (Lit.int .i64))
theorem srcD_succ {l : List Int} {k : Nat} {x : Int} (h : l[k]? = some x) : srcD (l.take (k + 1)) = (srcD (l.take k)).put (.int .i64 x) tru := by
 unfold srcD
 rw [List.take_add_one, h, Option.toList, List.map_append, List.map_cons, List.map_nil, Maps.setOf_snoc]
theorem srcD_size {l : List Int} (h : l.Nodup) : Maps.size (srcD l) = l.length := by
 unfold srcD
 rw [Maps.size_setOf _ _ (fun x hx => by obtain ⟨y, _, rfl⟩ := List.mem_map.1 hx; trivial)]
 have key : ∀ (l acc : List Int), (acc ++ l).Nodup → (l.map (Lit.int .i64)).foldl Maps.addKey (acc.map (Lit.int .i64)) = (acc ++ l).map (Lit.int .i64) := by
  intro l
  induction l with
  | nil => intro acc _; simp
  | cons x l ih =>
   intro acc hnd
   have hx : x ∉ acc := by
    rw [List.nodup_append] at hnd
    intro hx
    exact hnd.2.2 x hx x (by simp) rfl
   have e : Maps.addKey (acc.map (Lit.int .i64)) (.int .i64 x) = (acc ++ [x]).map (Lit.int .i64) := by
    unfold Maps.addKey
    rw [if_neg]
    ·simp
    ·rw [Bool.not_eq_true, List.any_eq_false]
     intro y hy
     obtain ⟨z, hz, rfl⟩ := List.mem_map.1 hy
     have hne : z ≠ x := fun e => hx (e ▸ hz)
     simp [Lit.sameKey, hne]
   rw [List.map_cons, List.foldl_cons, e, ih (acc ++ [x]) (by simpa using hnd)]
   simp
 have := key l [] (by simpa using h)
 simp only [List.map_nil, List.nil_append] at this
 rw [this, List.length_map]
set_option maxHeartbeats 4000000 in
set_option maxRecDepth 100000 in
theorem distinct_any (A : Option Addr) (c n : Nat) (l : List Int) (w : World) (hn : l.length = n) (h4 : n ≤ 4) (hl : ∀ x ∈ l, 0 ≤ x ∧ x ≤ 3) (hnd : l.Nodup) (hr : Rd ienc 1 w w.heap.size A l) :
  Calls Tryz.prog 123 #[.slice A n c] w fun e w' => e = .returned (.int .i64 n) ∧ Below w.heap.size w w' := by
 have HN := Lib.hid hn; have HLL := Lib.hid hl; have HND := Lib.hid hnd
 have hkey := int_keyed Tryz.underlying3
 have hmm := @run_makeMap Tryz.prog
 have hbl := plainElem_bool (H := Unit) Tryz.underlying4 true
 have HKEY := Lib.hid hkey; have HBL := Lib.hid hbl
 clear hn hl hnd hkey hbl
 go_enter Tryz.func123, Tryz.ntmps123
 go_wp2_with fail
 go_loopw [9] (fun i wr => ∃ k : Nat, k ≤ n ∧ i = .int .i64 k ∧ wr.ownsMap Tryz.prog 3 (plainElem Tryz.prog 4) w.heap.size k (srcD (l.take k)) ∧ Below w.heap.size w wr) (fun i _ => n - (intOf i).toNat)
 case atStart => exact ⟨0, Nat.zero_le _, rfl, by simpa [srcD, Maps.setOf] using World.ownsMap_made w Tryz.prog 3 (plainElem Tryz.prog 4), below_new (Below.refl _ _) _⟩
 case round =>
  obtain ⟨k, hk, rfl, hown, hb⟩ := hrel
  clear hmm
  by_cases hlt : k < n
  ·obtain ⟨y, hy⟩ : ∃ y, l[k]? = some y := ⟨_, List.getElem?_eq_getElem (by rw [HN.out]; exact hlt)⟩
   obtain ⟨b, off, rfl, hbb, f0⟩ : ∃ b off, A = some ⟨b, off, none⟩ ∧ b < wr.heap.size ∧ wr.cell? ⟨b, off + k, none⟩ = some (.int .i64 y) := by
    obtain ⟨b, off, e, hb, hc⟩ := (rd_grown hr hb).at_ hy
    exact ⟨b, off, e, hb, by simpa using hc 0 _ rfl⟩
   have hyr := HLL.out y (List.mem_of_getElem? hy)
   have hwf : (Lit.int .i64 y).wf = true := by
    have h : y = 0 ∨ y = 1 ∨ y = 2 ∨ y = 3 := by omega
    rcases h with h | h | h | h <;> rw [h] <;> decide
   have d1 : decide ((k : Int) < (n : Int)) = true := by simp; omega
   have d1' : decide (k < n) = true := by simp [hlt]
   have k1 : (0 : Int) ≤ (k : Int) := by omega
   have k2 : (k : Int) < (n : Int) := by omega
   have e1 : IntKind.i64.wrap ((k : Int) + 1) = (k : Int) + 1 := IntWalk.i64_in _ (by omega)
   have hsu := srcD_succ hy
   have HSU := Lib.hid hsu
   have HK := Lib.hid (keyOf_int_mk Tryz.underlying3 hwf)
   have HL := Lib.hid hlt
   clear hyr hy hlt hwf hsu
   go_wp2_with (at_mapUpdate; refine wpList_mapUpdate_own _ rfl _ _ _ 232 rfl 3 4 HKEY.out Tryz.underlying232 _ w.heap.size k _ rfl hown (by unfold maxLen; omega) _ _ (.int .i64 y) rfl rfl HK.out tru [] HBL.out ?_; intro w1 hown1 hgrow1)
   go_roundw
   case rel => exact ⟨k + 1, HL.out, by go_num, by rw [HSU.out]; exact hown1, hb.trans (below_of_grown hgrow1 (fun k hk => by cases hk; exact Nat.le_refl _) hb.size)⟩
   case measure => simp [intOf]; omega
  ·obtain rfl : k = n := by omega
   have d1 : decide ((k : Int) < (k : Int)) = false := by simp
   have d1' : decide (k < k) = false := by simp
   have hsz : Maps.size (srcD (l.take k)) = k := by rw [List.take_of_length_le (by rw [HN.out]; exact Nat.le_refl _), srcD_size HND.out, HN.out]
   have HSZ := Lib.hid hsz
   clear hsz
   go_wp2_with (at_len; refine wpList_len_own _ rfl _ 232 rfl 3 4 Tryz.underlying232 _ w.heap.size k _ rfl hown ?_; rw [HSZ.out])
   go_ret
   exact ⟨rfl, hb⟩
end Go.Proofs.YtnljihjhmgpcoaaGreat
namespace Go.Proofs.YtnljihjhmgpcoaaGreat
open Go.RowKit Go.ChangeShapes Go.WideShapes Go.ChangeAt Go.Deep
def blenc (b : Bool) : List Value := [.bool b]
theorem bl_len (b : Bool) : (blenc b).length = 1 := rfl
theorem bl_one : OneCells blenc := by
 intro x u hu; simp [blenc] at hu; subst hu; rfl
theorem bl_info : (Tryz.prog.info? 4).map (fun i => (i.zero, i.size, i.bytes)) = some (some (.bool false), 1, 1) := by kernel_rfl
theorem bl_el : ElOk Tryz.prog 144 4 1 1 := elOk bl_info Tryz.underlying144 rfl (by decide) (by decide)
theorem bl_at {w : World} {B : Nat} {A : Option Addr} {l : List Bool} (h : Rd blenc 1 w B A l) {k : Nat} {x : Bool} (hx : l[k]? = some x) : ∃ b off, A = some ⟨b, off, none⟩ ∧ b < B ∧ w.cell? ⟨b, off + k, none⟩ = some (.bool x) := by
 obtain ⟨b, off, e, hb, hc⟩ := h.at_ hx
 exact ⟨b, off, e, hb, by simpa using hc 0 _ rfl⟩
theorem in_at {w : World} {B : Nat} {A : Option Addr} {l : List Int} (h : Rd ienc 1 w B A l) {k : Nat} {x : Int} (hx : l[k]? = some x) : ∃ b off, A = some ⟨b, off, none⟩ ∧ b < B ∧ w.cell? ⟨b, off + k, none⟩ = some (.int .i64 x) := by
 obtain ⟨b, off, e, hb, hc⟩ := h.at_ hx
 exact ⟨b, off, e, hb, by simpa using hc 0 _ rfl⟩
/-- One part. -/
theorem takes1_any (t : Bool) (j : Nat) (x : Bool) (l : List Bool) (hx : l[j]? = some x) (P : Option Addr) (cp ib ni ci : Nat) (I : Option Addr) (w : World) (hp : Rd ienc 1 w w.heap.size P [(j : Int)]) (hbx : w.cell? ⟨ib, 0, none⟩ = some (.slice I ni ci)) (hni : j < ni) (_h60 : ni ≤ 60) (hr : Rd blenc 1 w w.heap.size I l) :
  Calls Tryz.prog 160 #[.bool t, .slice P 1 cp, .pointer (some ⟨ib, 0, none⟩)] w fun r w' => r = .returned (.bool (x == t)) ∧ w = w' := by
 obtain ⟨b1, o1, rfl, -, p0⟩ := in_at hp (k := 0) (x := j) rfl
 obtain ⟨b2, o2, rfl, -, q0⟩ := bl_at hr hx
 simp only [Nat.add_zero] at p0
 have k1 : (0 : Int) ≤ (j : Int) := by omega
 have k2 : (j : Int) < (ni : Int) := by omega
 clear hp hr hx
 cases t <;> cases x
 all_goals
  go_enter Tryz.func160, Tryz.ntmps160
  go_wp2_with fail
  refine wp_loop_rounds 2 ?_
  rw [rounds_succ]
  go_wp2_with fail
  try (rw [rounds_succ]; go_wp2_with fail)
  go_ret
  exact ⟨rfl, rfl⟩
/-- Two parts. -/
theorem takes2_any (t : Bool) (i j : Nat) (x y : Bool) (l : List Bool) (hx : l[i]? = some x) (hy : l[j]? = some y) (P : Option Addr) (cp ib ni ci : Nat) (I : Option Addr) (w : World) (hp : Rd ienc 1 w w.heap.size P [(i : Int), (j : Int)]) (hbx : w.cell? ⟨ib, 0, none⟩ = some (.slice I ni ci)) (hi : i < ni) (hj : j < ni) (_h60 : ni ≤ 60) (hr : Rd blenc 1 w w.heap.size I l) :
  Calls Tryz.prog 160 #[.bool t, .slice P 2 cp, .pointer (some ⟨ib, 0, none⟩)] w fun r w' => r = .returned (.bool ((x == t) && (y == t))) ∧ w = w' := by
 obtain ⟨b1, o1, rfl, -, p0⟩ := in_at hp (k := 0) (x := i) rfl
 obtain ⟨b1', o1', he, -, p1⟩ := in_at hp (k := 1) (x := j) rfl
 cases he
 obtain ⟨b2, o2, rfl, -, q0⟩ := bl_at hr hx
 obtain ⟨b2', o2', he, -, q1⟩ := bl_at hr hy
 cases he
 simp only [Nat.add_zero] at p0
 have k1 : (0 : Int) ≤ (j : Int) := by omega
 have k2 : (j : Int) < (ni : Int) := by omega
 have k3 : (0 : Int) ≤ (i : Int) := by omega
 have k4 : (i : Int) < (ni : Int) := by omega
 clear hp hr hx hy
 cases t <;> cases x <;> cases y
 all_goals
  go_enter Tryz.func160, Tryz.ntmps160
  go_wp2_with fail
  refine wp_loop_rounds 3 ?_
  rw [rounds_succ]
  go_wp2_with fail
  try (rw [rounds_succ]; go_wp2_with fail)
  try (rw [rounds_succ]; go_wp2_with fail)
  go_ret
  exact ⟨rfl, rfl⟩
def givL (tr : Nat → Ex) (i : Nat) : List Bool := (List.range i).map fun j => (tr j).gives
theorem givL_succ (tr : Nat → Ex) (i : Nat) : givL tr (i + 1) = givL tr i ++ [(tr i).gives] := by simp [givL, List.range_succ]
theorem givL_len (tr : Nat → Ex) (i : Nat) : (givL tr i).length = i := by simp [givL]
theorem givL_at (tr : Nat → Ex) {i j : Nat} (h : j < i) : (givL tr i)[j]? = some (tr j).gives := by simp [givL, h]
theorem own_far_set {α : Type} {enc : α → List Value} {sz : Nat} {w : World} {base b i : Nat} {e : TypeId} {v : Value} {l : List α} (h : Own enc sz w base e v l) (hb : b < base) (u : Value) : Own enc sz (w.setCell ⟨b, i, none⟩ u) base e v l := by
 have h1 : Below base w (w.setCell ⟨b, i, none⟩ u) ∨ True := .inr trivial
 refine Own.grown h (row := some b) ⟨rfl, rfl, rfl, by simp [World.setCell], fun k _ hne => Below.heap_setCell _ _ _ _ (fun e => hne (by rw [e]))⟩ ?_
 cases hv : v.ownBlock with
 | none => exact .inl rfl
 | some k =>
  have := (World.ownsRow.lt h k hv).1
  exact .inr (by simp; omega)
theorem own_lt_far {α : Type} {enc : α → List Value} {sz : Nat} {w : World} {base g : Nat} {e : TypeId} {v : Value} {l : List α} (h : Own enc sz w base e v l) (hg : g < base) : some g ≠ v.ownBlock := fun e => by
 have := (World.ownsRow.lt h g e.symm).1
 omega
theorem rd_take1 {w : World} {B : Nat} {A : Option Addr} {x y : Int} (h : Rd ienc 1 w B A [x, y]) : Rd ienc 1 w B A [x] := fun _ => by
 obtain ⟨b, off, e, hb, hc⟩ := h (by simp)
 refine ⟨b, off, e, hb, fun k z hz => hc k z ?_⟩
 match k, hz with
 | 0, hz => exact hz
def ToldP (tr : Nat → Ex) (n : Nat) (w : World) (r : Ending) (w' : World) : Prop := ∃ v, r = .returned (.tuple #[v, .int .i64 n]) ∧ Own blenc 1 w' w.heap.size 4 v (givL tr n) ∧ Below w.heap.size w w'
set_option maxHeartbeats 16000000 in
set_option maxRecDepth 100000 in
theorem told_any {l : List Nd} {tr : Nat → Ex} (htr : TrOk l tr) (hfit : ∀ i, i < l.length → (tr i).fits = true) (A : Option Addr) (c n : Nat) (w : World) (hln : l.length = n) (h60 : n ≤ 60) (hr : Rd nenc 5 w w.heap.size A l) :
  Calls Tryz.prog 145 #[.slice A n c] w (ToldP tr n w) := by
 have HLN := Lib.hid hln; have HTR := Lib.hid htr
 rw [hln] at hfit
 have HFIT := Lib.hid hfit
 clear hln htr hfit
 go_enter Tryz.func145, Tryz.ntmps145
 go_wp2_with fail
 go_step3
 go_wp2_with fail
 go_step3
 go_wp2_with fail
 have hl0 := (Loc.nil w).new [.slice none 0 0] 144
 have hb0 : Below w.heap.size w (w.alloc (.cells #[.slice none 0 0] 144)) := below_new (Below.refl _ _) _
 obtain ⟨ib, hib⟩ : ∃ ib, w.heap.size = ib := ⟨_, rfl⟩
 have HIB := Lib.hid hib
 rw [hib] at hl0
 (try simp only [hib])
 go_loopw [14] (fun i wr => ∃ (k : Nat) (v : Value), k ≤ n ∧ i = .int .i64 k ∧ Loc wr [(ib, [v])] ∧ Own blenc 1 wr (ib + 1) 4 v (givL tr k) ∧ Below w.heap.size w wr) (fun i _ => n - (intOf i).toNat)
 case atStart => exact ⟨0, _, Nat.zero_le _, rfl, hl0, Own.nil _ _ _, hb0⟩
 case round =>
  obtain ⟨k, v, hk, rfl, hlr, ownr, hb⟩ := hrel
  clear hl0 hb0 hib
  by_cases hlt : k < n
  ·obtain ⟨x, hx⟩ : ∃ x, l[k]? = some x := ⟨_, List.getElem?_eq_getElem (by rw [HLN.out]; exact hlt)⟩
   obtain ⟨b, off, rfl, hbb, f0, f1, f2, f3, f4⟩ := nd_cells (rd_grown hr hb) hx
   have d1 : decide ((k : Int) < (n : Int)) = true := by simp; omega
   have d1' : decide (k < n) = true := by simp [hlt]
   have k1 : (0 : Int) ≤ (k : Int) := by omega
   have k2 : (k : Int) < (n : Int) := by omega
   have e1 : IntKind.i64.wrap ((k : Int) + 1) = (k : Int) + 1 := IntWalk.i64_in _ (by omega)
   have hdec := HTR.out k x hx
   have hfk := HFIT.out k hlt
   have HL := Lib.hid hlt
   clear hx hlt
   obtain ⟨Av, cv, rfl, -, -⟩ := own_shape_z ownr (n := k) (givL_len _ _)
   have hrb := Own.rd bl_len ownr
   have hibr : ib < wr.heap.size := hlr.1
   have hF := hlr
   (repeat unfold Loc at hF)
   obtain ⟨xk, xn, xa, xb, xp⟩ := x
   simp only at f0 f1 f2 f3 f4
   rcases hdec with ⟨e, hk', ha0, hb0, hp⟩ | ⟨j, hj, e, hk', hn0, ha, hb0, hp⟩ | ⟨j, m, hj, hm, e, hk', hn0, ha, hb0, hp⟩
   ·have hg : (tr k).gives = false := by rw [e]; unfold Ex.gives Ex.kind givK; have := hk'.1; simp only [decide_eq_false_iff_not]; simp only at this; omega
    have g4 : xk ≤ 4 := hk'.1.2
    have g4' : decide (xk ≤ 4) = true := by simp [g4]
    have HG := Lib.hid hg
    clear hg e hk' ha0 hb0 hp hfk
    go_upto_region 11 with (fail)
    obtain ⟨Z, hZ, hbz⟩ : ∃ Z, Z = ((wr.alloc (.cells #[.int .u8 xk, .int .i64 xn, .int .i64 xa, .int .i64 xb, .int .i64 xp] 133)).alloc (.cells #[.bool false, .bool false] 256)).alloc (.cells #[.int .i64 xa, .int .i64 xb] 3) ∧ Below wr.heap.size wr Z := ⟨_, rfl, below_new (below_new (below_new (Below.refl _ _) _) _) _⟩
    rw [← hZ]
    have hG := hlr.below hbz
    (repeat unfold Loc at hG)
    clear hZ hF
    go_wp2_with (at_builtin; refine wpList_app bl_el rfl (.tmp 29) (.tmp 30) rfl (ib + 1) bl_len bl_one (givL tr k) [false] rfl ((ownr.below hbz).alloc _) rfl rfl (flat_new _ _ _ _ rfl _ rfl) (by rw [givL_len]; omega) (by have := hbz.size; simp; omega) ?_; intro v7 w7 own7 hgr7 hb7 hl7; obtain ⟨A7, c7, rfl, -, -⟩ := own_shape_z own7 (n := k + 1) (by simp [givL_len]); have hl8 := ((hlr.below hbz).old _).grown hgr7 (by intro q hq; rw [List.mem_singleton] at hq; subst hq; exact own_lt_far ownr (Nat.lt_succ_self _)); have hl9 := hl8; (repeat unfold Loc at hl9))
    go_roundw
    case rel => exact ⟨k + 1, _, HL.out, by go_num, hl8.put (by simp) 0 _ (by simp), by rw [givL_succ, HG.out]; exact own_far_set own7 (Nat.lt_succ_self _) _, by have h1 := below_then hb hbz; have h2 := (h1.alloc h1.size _).trans (Below.mono hb7 (by rw [HIB.out]; omega)); exact below_put h2 (by rw [HIB.out]; exact Nat.le_refl _) _⟩
    case measure => simp [intOf]; omega
   ·obtain rfl : xn = 0 := hn0
    obtain rfl : xa = j := ha
    obtain rfl : xb = 0 := hb0
    have hjk : j < k := by omega
    clear hj
    rcases hk' with h5 | h5
    ·have h5' : xk = 5 := h5
     subst h5'
     have hgj : (tr j).gives = false := by rw [e] at hfk; simpa [Ex.fits] using hfk
     have hg : (tr k).gives = false := by rw [e]; rfl
     have h60k : k ≤ 60 := by omega
     have HG := Lib.hid hg; have HGJ := Lib.hid hgj
     clear hg hgj e hp hfk h5
     go_wp2_with fail
     go_region
     go_upto_region 22 with (fail)
     obtain ⟨Z, hZ, hlz, hrz, hbz⟩ : ∃ Z, Z = (((wr.alloc (.cells #[.int .u8 5, .int .i64 0, .int .i64 j, .int .i64 0, .int .i64 xp] 133)).alloc (.cells #[.bool true, .bool false] 256)).alloc (.cells #[.int .i64 j, .int .i64 0] 3)).drew ∧ Loc Z [(wr.heap.size + 1, [.bool true, .bool false])] ∧ Rd ienc 1 Z Z.heap.size (some ⟨wr.heap.size + 1 + 1, 0, none⟩) [(j : Int), 0] ∧ Below wr.heap.size wr Z := by
      have g := ((Loc.nil (wr.alloc (.cells #[.int .u8 5, .int .i64 0, .int .i64 j, .int .i64 0, .int .i64 xp] 133))).new [.bool true, .bool false] 256).old (.cells #[.int .i64 j, .int .i64 0] 3)
      have h := rd_new ((wr.alloc (.cells #[.int .u8 5, .int .i64 0, .int .i64 j, .int .i64 0, .int .i64 xp] 133)).alloc (.cells #[.bool true, .bool false] 256)) [(j : Int), 0] 3
      rw [World.size_alloc] at g
      rw [World.size_alloc, World.size_alloc] at h
      refine ⟨_, rfl, g.drew, ?_, below_drew (below_new (below_new (below_new (Below.refl _ _) _) _) _)⟩
      refine Rd.drew (Rd.more h ?_)
      simp
     rw [← hZ]
     have hG := hlr.below hbz
     (repeat unfold Loc at hG)
     have hG2 := hlz
     (repeat unfold Loc at hG2)
     have hrbz := (hrb.grow hbz)
     clear hZ hF
     go_wp2_with fail
     go_at_call 160
     refine (takes1_any false j _ _ (givL_at tr (by omega)) _ _ ib k cv _ Z (rd_take1 hrz) (hG.2.1 0) (by omega) h60k hrbz).mono ?_
     rintro r w5 ⟨rfl, rfl⟩
     rw [HGJ.out]
     go_wp2_with (at_builtin; refine wpList_app bl_el rfl (.tmp 80) (.tmp 82) rfl (ib + 1) bl_len bl_one (givL tr k) [false] rfl ((ownr.below hbz).alloc _) rfl rfl (flat_new _ _ _ _ rfl _ rfl) (by rw [givL_len]; omega) (by have := hbz.size; simp; omega) ?_; intro v7 w7 own7 hgr7 hb7 hl7; obtain ⟨A7, c7, rfl, -, -⟩ := own_shape_z own7 (n := k + 1) (by simp [givL_len]); have hl8 := ((hlr.below hbz).old _).grown hgr7 (by intro q hq; rw [List.mem_singleton] at hq; subst hq; exact own_lt_far ownr (Nat.lt_succ_self _)); have hl9 := hl8; (repeat unfold Loc at hl9))
     go_roundw
     case rel => exact ⟨k + 1, _, HL.out, by go_num, hl8.put (by simp) 0 _ (by simp), by rw [givL_succ, HG.out]; exact own_far_set own7 (Nat.lt_succ_self _) _, by have h1 := below_then hb hbz; have h2 := (h1.alloc h1.size _).trans (Below.mono hb7 (by rw [HIB.out]; omega)); exact below_put h2 (by rw [HIB.out]; exact Nat.le_refl _) _⟩
     case measure => simp [intOf]; omega
    ·have h5' : xk = 6 := h5
     subst h5'
     have hgj : (tr j).gives = true := by rw [e] at hfk; simpa [Ex.fits] using hfk
     have hg : (tr k).gives = true := by rw [e]; rfl
     have h60k : k ≤ 60 := by omega
     have HG := Lib.hid hg; have HGJ := Lib.hid hgj
     clear hg hgj e hp hfk h5
     go_wp2_with fail
     go_region
     go_upto_region 22 with (fail)
     obtain ⟨Z, hZ, hlz, hrz, hbz⟩ : ∃ Z, Z = (((wr.alloc (.cells #[.int .u8 6, .int .i64 0, .int .i64 j, .int .i64 0, .int .i64 xp] 133)).alloc (.cells #[.bool false, .bool true] 256)).alloc (.cells #[.int .i64 j, .int .i64 0] 3)).drew ∧ Loc Z [(wr.heap.size + 1, [.bool false, .bool true])] ∧ Rd ienc 1 Z Z.heap.size (some ⟨wr.heap.size + 1 + 1, 0, none⟩) [(j : Int), 0] ∧ Below wr.heap.size wr Z := by
      have g := ((Loc.nil (wr.alloc (.cells #[.int .u8 6, .int .i64 0, .int .i64 j, .int .i64 0, .int .i64 xp] 133))).new [.bool false, .bool true] 256).old (.cells #[.int .i64 j, .int .i64 0] 3)
      have h := rd_new ((wr.alloc (.cells #[.int .u8 6, .int .i64 0, .int .i64 j, .int .i64 0, .int .i64 xp] 133)).alloc (.cells #[.bool false, .bool true] 256)) [(j : Int), 0] 3
      rw [World.size_alloc] at g
      rw [World.size_alloc, World.size_alloc] at h
      refine ⟨_, rfl, g.drew, ?_, below_drew (below_new (below_new (below_new (Below.refl _ _) _) _) _)⟩
      refine Rd.drew (Rd.more h ?_)
      simp
     rw [← hZ]
     have hG := hlr.below hbz
     (repeat unfold Loc at hG)
     have hG2 := hlz
     (repeat unfold Loc at hG2)
     have hrbz := (hrb.grow hbz)
     clear hZ hF
     go_wp2_with fail
     go_at_call 160
     refine (takes1_any true j _ _ (givL_at tr (by omega)) _ _ ib k cv _ Z (rd_take1 hrz) (hG.2.1 0) (by omega) h60k hrbz).mono ?_
     rintro r w5 ⟨rfl, rfl⟩
     rw [HGJ.out]
     go_wp2_with (at_builtin; refine wpList_app bl_el rfl (.tmp 80) (.tmp 82) rfl (ib + 1) bl_len bl_one (givL tr k) [true] rfl ((ownr.below hbz).alloc _) rfl rfl (flat_new _ _ _ _ rfl _ rfl) (by rw [givL_len]; omega) (by have := hbz.size; simp; omega) ?_; intro v7 w7 own7 hgr7 hb7 hl7; obtain ⟨A7, c7, rfl, -, -⟩ := own_shape_z own7 (n := k + 1) (by simp [givL_len]); have hl8 := ((hlr.below hbz).old _).grown hgr7 (by intro q hq; rw [List.mem_singleton] at hq; subst hq; exact own_lt_far ownr (Nat.lt_succ_self _)); have hl9 := hl8; (repeat unfold Loc at hl9))
     go_roundw
     case rel => exact ⟨k + 1, _, HL.out, by go_num, hl8.put (by simp) 0 _ (by simp), by rw [givL_succ, HG.out]; exact own_far_set own7 (Nat.lt_succ_self _) _, by have h1 := below_then hb hbz; have h2 := (h1.alloc h1.size _).trans (Below.mono hb7 (by rw [HIB.out]; omega)); exact below_put h2 (by rw [HIB.out]; exact Nat.le_refl _) _⟩
     case measure => simp [intOf]; omega
   ·obtain rfl : xn = 0 := hn0
    obtain rfl : xa = m := ha
    obtain rfl : xb = j := hb0
    obtain ⟨g7, g19⟩ : 7 ≤ xk ∧ xk ≤ 19 := hk'
    have hs1 := (tr j).size_pos
    have hmk : m < k := by omega
    have hjk : j < k := by omega
    clear hj
    have h60k : k ≤ 60 := by omega
    have d4 : decide (xk ≤ 4) = false := by simp; omega
    have d5 : (xk == 5) = false := by simp; omega
    have d6 : (xk == 6) = false := by simp; omega
    rw [e] at hfk
    simp only [Ex.fits] at hfk
    clear hm hp
    by_cases g11 : xk ≤ 11
    ·have hgg : (tr j).gives = false ∧ (tr m).gives = false := by
      rw [if_neg (by omega), if_neg (by omega)] at hfk; simp at hfk; exact ⟨hfk.2, hfk.1⟩
     have hg : (tr k).gives = false := by rw [e]; unfold Ex.gives Ex.kind givK; simp; omega
     have d7 : decide (xk ≤ 11) = true := by simp [g11]
     have HG := Lib.hid hg; have HGJ := Lib.hid hgg.1; have HGM := Lib.hid hgg.2
     clear hg hgg e hfk
     go_upto_region 22 with (fail)
     obtain ⟨Z, hZ, hlz, hrz, hbz⟩ : ∃ Z, Z = ((wr.alloc (.cells #[.int .u8 xk, .int .i64 0, .int .i64 m, .int .i64 j, .int .i64 xp] 133)).alloc (.cells #[.bool true, .bool false] 256)).alloc (.cells #[.int .i64 m, .int .i64 j] 3) ∧ Loc Z [(wr.heap.size + 1, [.bool true, .bool false])] ∧ Rd ienc 1 Z Z.heap.size (some ⟨wr.heap.size + 1 + 1, 0, none⟩) [(m : Int), j] ∧ Below wr.heap.size wr Z := by
      have g := ((Loc.nil (wr.alloc (.cells #[.int .u8 xk, .int .i64 0, .int .i64 m, .int .i64 j, .int .i64 xp] 133))).new [.bool true, .bool false] 256).old (.cells #[.int .i64 m, .int .i64 j] 3)
      have h := rd_new ((wr.alloc (.cells #[.int .u8 xk, .int .i64 0, .int .i64 m, .int .i64 j, .int .i64 xp] 133)).alloc (.cells #[.bool true, .bool false] 256)) [(m : Int), j] 3
      rw [World.size_alloc] at g
      rw [World.size_alloc, World.size_alloc] at h
      refine ⟨_, rfl, g, Rd.more h ?_, below_new (below_new (below_new (Below.refl _ _) _) _) _⟩
      simp
     rw [← hZ]
     have hG := hlr.below hbz
     (repeat unfold Loc at hG)
     have hG2 := hlz
     (repeat unfold Loc at hG2)
     have hrbz := (hrb.grow hbz)
     clear hZ hF
     go_wp2_with fail
     go_at_call 160
     refine (takes2_any false m j _ _ _ (givL_at tr (by omega)) (givL_at tr (by omega)) _ _ ib k cv _ Z hrz (hG.2.1 0) (by omega) (by omega) h60k hrbz).mono ?_
     rintro r w5 ⟨rfl, rfl⟩
     rw [HGJ.out, HGM.out]
     go_wp2_with (at_builtin; refine wpList_app bl_el rfl (.tmp 80) (.tmp 82) rfl (ib + 1) bl_len bl_one (givL tr k) [false] rfl ((ownr.below hbz).alloc _) rfl rfl (flat_new _ _ _ _ rfl _ rfl) (by rw [givL_len]; omega) (by have := hbz.size; simp; omega) ?_; intro v7 w7 own7 hgr7 hb7 hl7; obtain ⟨A7, c7, rfl, -, -⟩ := own_shape_z own7 (n := k + 1) (by simp [givL_len]); have hl8 := ((hlr.below hbz).old _).grown hgr7 (by intro q hq; rw [List.mem_singleton] at hq; subst hq; exact own_lt_far ownr (Nat.lt_succ_self _)); have hl9 := hl8; (repeat unfold Loc at hl9))
     go_roundw
     case rel => exact ⟨k + 1, _, HL.out, by go_num, hl8.put (by simp) 0 _ (by simp), by rw [givL_succ, HG.out]; exact own_far_set own7 (Nat.lt_succ_self _) _, by have h1 := below_then hb hbz; have h2 := (h1.alloc h1.size _).trans (Below.mono hb7 (by rw [HIB.out]; omega)); exact below_put h2 (by rw [HIB.out]; exact Nat.le_refl _) _⟩
     case measure => simp [intOf]; omega
    ·have d7 : decide (xk ≤ 11) = false := by simp; omega
     by_cases g15 : xk ≤ 15
     ·have hgg : (tr j).gives = false ∧ (tr m).gives = false := by
       rw [if_neg (by omega), if_neg (by omega)] at hfk; simp at hfk; exact ⟨hfk.2, hfk.1⟩
      have hg : (tr k).gives = true := by rw [e]; unfold Ex.gives Ex.kind givK; simp; omega
      have d8 : decide (xk ≤ 15) = true := by simp [g15]
      have HG := Lib.hid hg; have HGJ := Lib.hid hgg.1; have HGM := Lib.hid hgg.2
      clear hg hgg e hfk
      go_upto_region 22 with (fail)
      obtain ⟨Z, hZ, hlz, hrz, hbz⟩ : ∃ Z, Z = ((wr.alloc (.cells #[.int .u8 xk, .int .i64 0, .int .i64 m, .int .i64 j, .int .i64 xp] 133)).alloc (.cells #[.bool true, .bool false] 256)).alloc (.cells #[.int .i64 m, .int .i64 j] 3) ∧ Loc Z [(wr.heap.size + 1, [.bool true, .bool false])] ∧ Rd ienc 1 Z Z.heap.size (some ⟨wr.heap.size + 1 + 1, 0, none⟩) [(m : Int), j] ∧ Below wr.heap.size wr Z := by
       have g := ((Loc.nil (wr.alloc (.cells #[.int .u8 xk, .int .i64 0, .int .i64 m, .int .i64 j, .int .i64 xp] 133))).new [.bool true, .bool false] 256).old (.cells #[.int .i64 m, .int .i64 j] 3)
       have h := rd_new ((wr.alloc (.cells #[.int .u8 xk, .int .i64 0, .int .i64 m, .int .i64 j, .int .i64 xp] 133)).alloc (.cells #[.bool true, .bool false] 256)) [(m : Int), j] 3
       rw [World.size_alloc] at g
       rw [World.size_alloc, World.size_alloc] at h
       refine ⟨_, rfl, g, Rd.more h ?_, below_new (below_new (below_new (Below.refl _ _) _) _) _⟩
       simp
      rw [← hZ]
      have hG := hlr.below hbz
      (repeat unfold Loc at hG)
      have hG2 := hlz
      (repeat unfold Loc at hG2)
      have hrbz := (hrb.grow hbz)
      clear hZ hF
      go_wp2_with fail
      go_at_call 160
      refine (takes2_any false m j _ _ _ (givL_at tr (by omega)) (givL_at tr (by omega)) _ _ ib k cv _ Z hrz (hG.2.1 0) (by omega) (by omega) h60k hrbz).mono ?_
      rintro r w5 ⟨rfl, rfl⟩
      rw [HGJ.out, HGM.out]
      go_wp2_with (at_builtin; refine wpList_app bl_el rfl (.tmp 80) (.tmp 82) rfl (ib + 1) bl_len bl_one (givL tr k) [true] rfl ((ownr.below hbz).alloc _) rfl rfl (flat_new _ _ _ _ rfl _ rfl) (by rw [givL_len]; omega) (by have := hbz.size; simp; omega) ?_; intro v7 w7 own7 hgr7 hb7 hl7; obtain ⟨A7, c7, rfl, -, -⟩ := own_shape_z own7 (n := k + 1) (by simp [givL_len]); have hl8 := ((hlr.below hbz).old _).grown hgr7 (by intro q hq; rw [List.mem_singleton] at hq; subst hq; exact own_lt_far ownr (Nat.lt_succ_self _)); have hl9 := hl8; (repeat unfold Loc at hl9))
      go_roundw
      case rel => exact ⟨k + 1, _, HL.out, by go_num, hl8.put (by simp) 0 _ (by simp), by rw [givL_succ, HG.out]; exact own_far_set own7 (Nat.lt_succ_self _) _, by have h1 := below_then hb hbz; have h2 := (h1.alloc h1.size _).trans (Below.mono hb7 (by rw [HIB.out]; omega)); exact below_put h2 (by rw [HIB.out]; exact Nat.le_refl _) _⟩
      case measure => simp [intOf]; omega
     ·have d8 : decide (xk ≤ 15) = false := by simp; omega
      by_cases g17 : xk ≤ 17
      ·have d9 : decide (xk ≤ 17) = true := by simp [g17]
       rw [if_pos (by omega)] at hfk
       have hfe : (tr m).gives = (tr j).gives := by simpa using hfk
       clear hfk
       cases hgx : (tr j).gives
       ·have hgg : (tr j).gives = false ∧ (tr m).gives = false := by
         exact ⟨hgx, hfe.trans hgx⟩
        have hg : (tr k).gives = true := by rw [e]; unfold Ex.gives Ex.kind givK; simp; omega
        have hfk : True := trivial
        clear hfe hgx
        have HG := Lib.hid hg; have HGJ := Lib.hid hgg.1; have HGM := Lib.hid hgg.2
        clear hg hgg e hfk
        go_upto_region 22 with (fail)
        obtain ⟨Z, hZ, hlz, hrz, hbz⟩ : ∃ Z, Z = ((wr.alloc (.cells #[.int .u8 xk, .int .i64 0, .int .i64 m, .int .i64 j, .int .i64 xp] 133)).alloc (.cells #[.bool true, .bool true] 256)).alloc (.cells #[.int .i64 m, .int .i64 j] 3) ∧ Loc Z [(wr.heap.size + 1, [.bool true, .bool true])] ∧ Rd ienc 1 Z Z.heap.size (some ⟨wr.heap.size + 1 + 1, 0, none⟩) [(m : Int), j] ∧ Below wr.heap.size wr Z := by
         have g := ((Loc.nil (wr.alloc (.cells #[.int .u8 xk, .int .i64 0, .int .i64 m, .int .i64 j, .int .i64 xp] 133))).new [.bool true, .bool true] 256).old (.cells #[.int .i64 m, .int .i64 j] 3)
         have h := rd_new ((wr.alloc (.cells #[.int .u8 xk, .int .i64 0, .int .i64 m, .int .i64 j, .int .i64 xp] 133)).alloc (.cells #[.bool true, .bool true] 256)) [(m : Int), j] 3
         rw [World.size_alloc] at g
         rw [World.size_alloc, World.size_alloc] at h
         refine ⟨_, rfl, g, Rd.more h ?_, below_new (below_new (below_new (Below.refl _ _) _) _) _⟩
         simp
        rw [← hZ]
        have hG := hlr.below hbz
        (repeat unfold Loc at hG)
        have hG2 := hlz
        (repeat unfold Loc at hG2)
        have hrbz := (hrb.grow hbz)
        clear hZ hF
        go_wp2_with fail
        go_at_call 160
        refine (takes2_any false m j _ _ _ (givL_at tr (by omega)) (givL_at tr (by omega)) _ _ ib k cv _ Z hrz (hG.2.1 0) (by omega) (by omega) h60k hrbz).mono ?_
        rintro r w5 ⟨rfl, rfl⟩
        rw [HGJ.out, HGM.out]
        go_wp2_with (at_builtin; refine wpList_app bl_el rfl (.tmp 80) (.tmp 82) rfl (ib + 1) bl_len bl_one (givL tr k) [true] rfl ((ownr.below hbz).alloc _) rfl rfl (flat_new _ _ _ _ rfl _ rfl) (by rw [givL_len]; omega) (by have := hbz.size; simp; omega) ?_; intro v7 w7 own7 hgr7 hb7 hl7; obtain ⟨A7, c7, rfl, -, -⟩ := own_shape_z own7 (n := k + 1) (by simp [givL_len]); have hl8 := ((hlr.below hbz).old _).grown hgr7 (by intro q hq; rw [List.mem_singleton] at hq; subst hq; exact own_lt_far ownr (Nat.lt_succ_self _)); have hl9 := hl8; (repeat unfold Loc at hl9))
        go_roundw
        case rel => exact ⟨k + 1, _, HL.out, by go_num, hl8.put (by simp) 0 _ (by simp), by rw [givL_succ, HG.out]; exact own_far_set own7 (Nat.lt_succ_self _) _, by have h1 := below_then hb hbz; have h2 := (h1.alloc h1.size _).trans (Below.mono hb7 (by rw [HIB.out]; omega)); exact below_put h2 (by rw [HIB.out]; exact Nat.le_refl _) _⟩
        case measure => simp [intOf]; omega
       ·have hgg : (tr j).gives = true ∧ (tr m).gives = true := by
         exact ⟨hgx, hfe.trans hgx⟩
        have hg : (tr k).gives = true := by rw [e]; unfold Ex.gives Ex.kind givK; simp; omega
        have hfk : True := trivial
        clear hfe hgx
        have HG := Lib.hid hg; have HGJ := Lib.hid hgg.1; have HGM := Lib.hid hgg.2
        clear hg hgg e hfk
        go_upto_region 22 with (fail)
        obtain ⟨Z, hZ, hlz, hrz, hbz⟩ : ∃ Z, Z = ((wr.alloc (.cells #[.int .u8 xk, .int .i64 0, .int .i64 m, .int .i64 j, .int .i64 xp] 133)).alloc (.cells #[.bool true, .bool true] 256)).alloc (.cells #[.int .i64 m, .int .i64 j] 3) ∧ Loc Z [(wr.heap.size + 1, [.bool true, .bool true])] ∧ Rd ienc 1 Z Z.heap.size (some ⟨wr.heap.size + 1 + 1, 0, none⟩) [(m : Int), j] ∧ Below wr.heap.size wr Z := by
         have g := ((Loc.nil (wr.alloc (.cells #[.int .u8 xk, .int .i64 0, .int .i64 m, .int .i64 j, .int .i64 xp] 133))).new [.bool true, .bool true] 256).old (.cells #[.int .i64 m, .int .i64 j] 3)
         have h := rd_new ((wr.alloc (.cells #[.int .u8 xk, .int .i64 0, .int .i64 m, .int .i64 j, .int .i64 xp] 133)).alloc (.cells #[.bool true, .bool true] 256)) [(m : Int), j] 3
         rw [World.size_alloc] at g
         rw [World.size_alloc, World.size_alloc] at h
         refine ⟨_, rfl, g, Rd.more h ?_, below_new (below_new (below_new (Below.refl _ _) _) _) _⟩
         simp
        rw [← hZ]
        have hG := hlr.below hbz
        (repeat unfold Loc at hG)
        have hG2 := hlz
        (repeat unfold Loc at hG2)
        have hrbz := (hrb.grow hbz)
        clear hZ hF
        go_wp2_with fail
        go_at_call 160
        refine (takes2_any false m j _ _ _ (givL_at tr (by omega)) (givL_at tr (by omega)) _ _ ib k cv _ Z hrz (hG.2.1 0) (by omega) (by omega) h60k hrbz).mono ?_
        rintro r w5 ⟨rfl, rfl⟩
        rw [HGJ.out, HGM.out]
        go_wp2_with fail
        go_at_call 160
        refine (takes2_any true m j _ _ _ (givL_at tr (by omega)) (givL_at tr (by omega)) _ _ ib k cv _ Z hrz (hG.2.1 0) (by omega) (by omega) h60k hrbz).mono ?_
        rintro r w5 ⟨rfl, rfl⟩
        rw [HGJ.out, HGM.out]
        go_wp2_with (at_builtin; refine wpList_app bl_el rfl (.tmp 80) (.tmp 82) rfl (ib + 1) bl_len bl_one (givL tr k) [true] rfl ((ownr.below hbz).alloc _) rfl rfl (flat_new _ _ _ _ rfl _ rfl) (by rw [givL_len]; omega) (by have := hbz.size; simp; omega) ?_; intro v7 w7 own7 hgr7 hb7 hl7; obtain ⟨A7, c7, rfl, -, -⟩ := own_shape_z own7 (n := k + 1) (by simp [givL_len]); have hl8 := ((hlr.below hbz).old _).grown hgr7 (by intro q hq; rw [List.mem_singleton] at hq; subst hq; exact own_lt_far ownr (Nat.lt_succ_self _)); have hl9 := hl8; (repeat unfold Loc at hl9))
        go_roundw
        case rel => exact ⟨k + 1, _, HL.out, by go_num, hl8.put (by simp) 0 _ (by simp), by rw [givL_succ, HG.out]; exact own_far_set own7 (Nat.lt_succ_self _) _, by have h1 := below_then hb hbz; have h2 := (h1.alloc h1.size _).trans (Below.mono hb7 (by rw [HIB.out]; omega)); exact below_put h2 (by rw [HIB.out]; exact Nat.le_refl _) _⟩
        case measure => simp [intOf]; omega
      ·have d9 : decide (xk ≤ 17) = false := by simp; omega
       have hgg : (tr j).gives = true ∧ (tr m).gives = true := by
        rw [if_neg (by omega), if_pos (by omega)] at hfk; simp at hfk; exact ⟨hfk.2, hfk.1⟩
       have hg : (tr k).gives = true := by rw [e]; unfold Ex.gives Ex.kind givK; simp; omega
       have hd : True := trivial
       have HG := Lib.hid hg; have HGJ := Lib.hid hgg.1; have HGM := Lib.hid hgg.2
       clear hg hgg e hfk
       go_upto_region 22 with (fail)
       obtain ⟨Z, hZ, hlz, hrz, hbz⟩ : ∃ Z, Z = ((wr.alloc (.cells #[.int .u8 xk, .int .i64 0, .int .i64 m, .int .i64 j, .int .i64 xp] 133)).alloc (.cells #[.bool false, .bool true] 256)).alloc (.cells #[.int .i64 m, .int .i64 j] 3) ∧ Loc Z [(wr.heap.size + 1, [.bool false, .bool true])] ∧ Rd ienc 1 Z Z.heap.size (some ⟨wr.heap.size + 1 + 1, 0, none⟩) [(m : Int), j] ∧ Below wr.heap.size wr Z := by
        have g := ((Loc.nil (wr.alloc (.cells #[.int .u8 xk, .int .i64 0, .int .i64 m, .int .i64 j, .int .i64 xp] 133))).new [.bool false, .bool true] 256).old (.cells #[.int .i64 m, .int .i64 j] 3)
        have h := rd_new ((wr.alloc (.cells #[.int .u8 xk, .int .i64 0, .int .i64 m, .int .i64 j, .int .i64 xp] 133)).alloc (.cells #[.bool false, .bool true] 256)) [(m : Int), j] 3
        rw [World.size_alloc] at g
        rw [World.size_alloc, World.size_alloc] at h
        refine ⟨_, rfl, g, Rd.more h ?_, below_new (below_new (below_new (Below.refl _ _) _) _) _⟩
        simp
       rw [← hZ]
       have hG := hlr.below hbz
       (repeat unfold Loc at hG)
       have hG2 := hlz
       (repeat unfold Loc at hG2)
       have hrbz := (hrb.grow hbz)
       clear hZ hF
       go_wp2_with fail
       go_at_call 160
       refine (takes2_any true m j _ _ _ (givL_at tr (by omega)) (givL_at tr (by omega)) _ _ ib k cv _ Z hrz (hG.2.1 0) (by omega) (by omega) h60k hrbz).mono ?_
       rintro r w5 ⟨rfl, rfl⟩
       rw [HGJ.out, HGM.out]
       go_wp2_with (at_builtin; refine wpList_app bl_el rfl (.tmp 80) (.tmp 82) rfl (ib + 1) bl_len bl_one (givL tr k) [true] rfl ((ownr.below hbz).alloc _) rfl rfl (flat_new _ _ _ _ rfl _ rfl) (by rw [givL_len]; omega) (by have := hbz.size; simp; omega) ?_; intro v7 w7 own7 hgr7 hb7 hl7; obtain ⟨A7, c7, rfl, -, -⟩ := own_shape_z own7 (n := k + 1) (by simp [givL_len]); have hl8 := ((hlr.below hbz).old _).grown hgr7 (by intro q hq; rw [List.mem_singleton] at hq; subst hq; exact own_lt_far ownr (Nat.lt_succ_self _)); have hl9 := hl8; (repeat unfold Loc at hl9))
       go_roundw
       case rel => exact ⟨k + 1, _, HL.out, by go_num, hl8.put (by simp) 0 _ (by simp), by rw [givL_succ, HG.out]; exact own_far_set own7 (Nat.lt_succ_self _) _, by have h1 := below_then hb hbz; have h2 := (h1.alloc h1.size _).trans (Below.mono hb7 (by rw [HIB.out]; omega)); exact below_put h2 (by rw [HIB.out]; exact Nat.le_refl _) _⟩
       case measure => simp [intOf]; omega
  ·obtain rfl : k = n := by omega
   obtain ⟨Av, cv, rfl, -, -⟩ := own_shape_z ownr (n := k) (givL_len _ _)
   have d1 : decide ((k : Int) < (k : Int)) = false := by simp
   have d1' : decide (k < k) = false := by simp
   have hF := hlr
   (repeat unfold Loc at hF)
   go_wp2_with fail
   rw [Exit.noGoto_ret]
   go_ret2
   exact ⟨_, rfl, ownr.mono (by rw [HIB.out]; exact Nat.le_succ _), hb⟩
  /-- Right, small and typed. -/
def Ex.tgood (e : Ex) : Prop := e.good ∧ e.wt = true
theorem told_ex (e : Ex) (he : e.tgood) (A : Option Addr) (c n : Nat) (w : World) (hn : e.size = n) (hr : Rd nenc 5 w w.heap.size A (e.flat 0)) : Calls Tryz.prog 145 #[.slice A n c] w (ToldP e.tr n w) :=
 told_any (trok_flat he.1.1) (fun i hi => (wt_tr e he.2 i (by rwa [flat_len] at hi)).2.1) A c n w (by rw [flat_len]; exact hn) (by have := he.1.2.1; omega) hr
def KofP (e : Ex) (n : Nat) (w : World) (r : Ending) (w' : World) : Prop := r = .returned (.tuple #[.bool e.gives, .int .i64 ((n : Int) - 1), .int .i64 0]) ∧ Below w.heap.size w w'
set_option maxHeartbeats 4000000 in
theorem kof_any (e : Ex) (he : e.tgood) (A : Option Addr) (c n : Nat) (w : World) (hn : e.size = n) (hr : Rd nenc 5 w w.heap.size A (e.flat 0)) : Calls Tryz.prog 124 #[.slice A n c] w (KofP e n w) := by
 have hpos := e.size_pos
 have h60 : n ≤ 60 := by have := he.1.2.1; omega
 obtain ⟨m, rfl⟩ : ∃ m, n = m + 1 := ⟨n - 1, by omega⟩
 have hd : e.tr m = e := by have h := tr_last e; rw [hn] at h; exact h
 have hat : (givL e.tr (m + 1))[m]? = some e.gives := by rw [givL_at _ (by omega), hd]
 have hc := ncheck_any e he.1 A c (m + 1) w hn hr
 have ht := fun W hb => told_ex e he A c (m + 1) W hn (hr.grow hb)
 have HC := Lib.hid hc; have HT := Lib.hid ht; have HAT := Lib.hid hat
 have d1 : decide (((m + 1 : Nat) : Int) < ((m + 1 : Nat) : Int)) = false := by simp
 have d1' : decide (m + 1 < m + 1) = false := by simp
 clear hc ht hat hd hn hpos
 go_enter Tryz.func124, Tryz.ntmps124
 go_wp2_with fail
 go_at_call 84
 refine HC.out.mono ?_
 rintro r w2 ⟨rfl, hb2⟩
 go_wp2_with fail
 go_at_call 145
 refine (HT.out w2 hb2).mono ?_
 rintro r w3 ⟨v, rfl, own, hb3⟩
 obtain ⟨Av, cv, rfl, -, -⟩ := own_shape_z own (n := m + 1) (givL_len _ _)
 obtain ⟨b, off, rfl, hbb, f0⟩ := bl_at (Own.rd bl_len own) HAT.out
 go_wp2_with fail
 go_ret3
 exact ⟨by simp, below_then hb2 hb3⟩
set_option maxHeartbeats 4000000 in
theorem kall_any (e : Ex) (he : e.tgood) (A : Option Addr) (c n : Nat) (w : World) (hn : e.size = n) (hr : Rd nenc 5 w w.heap.size A (e.flat 0)) : Calls Tryz.prog 148 #[.slice A n c] w fun r w' => ∃ v, r = .returned (.tuple #[v, .int .i64 0]) ∧ Own blenc 1 w' w.heap.size 4 v (givL e.tr n) ∧ Below w.heap.size w w' := by
 have hc := kof_any e he A c n w hn hr
 have ht := fun W hb => told_ex e he A c n W hn (hr.grow hb)
 have HC := Lib.hid hc; have HT := Lib.hid ht
 clear hc ht hn
 go_enter Tryz.func148, Tryz.ntmps148
 go_wp2_with fail
 go_at_call 124
 refine HC.out.mono ?_
 rintro r w2 ⟨rfl, hb2⟩
 go_wp2_with fail
 go_at_call 145
 refine (HT.out w2 hb2).mono ?_
 rintro r w3 ⟨v, rfl, own, hb3⟩
 go_wp2_with fail
 go_ret2
 exact ⟨_, rfl, own.mono hb2.size, below_then hb2 hb3⟩
set_option maxHeartbeats 4000000 in
theorem kwant_any (e : Ex) (he : e.tgood) (A : Option Addr) (c n : Nat) (w : World) (hn : e.size = n) (hr : Rd nenc 5 w w.heap.size A (e.flat 0)) : Calls Tryz.prog 86 #[.slice A n c, .bool e.gives] w fun r w' => r = .returned (.tuple #[.int .i64 ((n : Int) - 1), .int .i64 0]) ∧ Below w.heap.size w w' := by
 have hc := kof_any e he A c n w hn hr
 unfold KofP at hc
 cases hg : e.gives
 all_goals
  rw [hg] at hc
  have HC := Lib.hid hc
  clear hc hn hg
  go_enter Tryz.func86, Tryz.ntmps86
  go_wp2_with fail
  go_at_call 124
  refine HC.out.mono ?_
  rintro r w2 ⟨rfl, hb2⟩
  go_wp2_with fail
  go_ret2
  exact ⟨rfl, hb2⟩
theorem knum_any (e : Ex) (he : e.tgood) (hg : e.gives = false) (A : Option Addr) (c n : Nat) (w : World) (hn : e.size = n) (hr : Rd nenc 5 w w.heap.size A (e.flat 0)) : Calls Tryz.prog 50 #[.slice A n c] w fun r w' => r = .returned (.tuple #[.int .i64 ((n : Int) - 1), .int .i64 0]) ∧ Below w.heap.size w w' := by
 have hc := kwant_any e he A c n w hn hr
 rw [hg] at hc
 have HC := Lib.hid hc
 clear hc hn hg
 go_enter Tryz.func50, Tryz.ntmps50
 go_wp2_with fail
 go_at_call 86
 refine HC.out.mono ?_
 rintro r w2 ⟨rfl, hb2⟩
 go_wp2_with fail
 go_ret2
 exact ⟨rfl, hb2⟩
theorem ktru_any (e : Ex) (he : e.tgood) (hg : e.gives = true) (A : Option Addr) (c n : Nat) (w : World) (hn : e.size = n) (hr : Rd nenc 5 w w.heap.size A (e.flat 0)) : Calls Tryz.prog 51 #[.slice A n c] w fun r w' => r = .returned (.tuple #[.int .i64 ((n : Int) - 1), .int .i64 0]) ∧ Below w.heap.size w w' := by
 have hc := kwant_any e he A c n w hn hr
 rw [hg] at hc
 have HC := Lib.hid hc
 clear hc hn hg
 go_enter Tryz.func51, Tryz.ntmps51
 go_wp2_with fail
 go_at_call 86
 refine HC.out.mono ?_
 rintro r w2 ⟨rfl, hb2⟩
 go_wp2_with fail
 go_ret2
 exact ⟨rfl, hb2⟩
theorem echeck_any (e : Ex) (he : e.tgood) (A : Option Addr) (c n : Nat) (w : World) (hn : e.size = n) (hr : Rd nenc 5 w w.heap.size A (e.flat 0)) : Calls Tryz.prog 103 #[.slice A n c] w fun r w' => r = .returned (.int .i64 0) ∧ Below w.heap.size w w' := by
 have hc := kof_any e he A c n w hn hr
 have HC := Lib.hid hc
 clear hc hn
 go_enter Tryz.func103, Tryz.ntmps103
 go_wp2_with fail
 go_at_call 124
 refine HC.out.mono ?_
 rintro r w2 ⟨rfl, hb2⟩
 go_wp2_with fail
 go_ret
 exact ⟨rfl, hb2⟩
def evL (tr : Nat → Ex) (r : Pt) (k : Nat) : List Int := (List.range k).map fun j => (tr j).ev r
theorem evL_len (tr : Nat → Ex) (r : Pt) (k : Nat) : (evL tr r k).length = k := by simp [evL]
theorem evL_at (tr : Nat → Ex) (r : Pt) {i k : Nat} (h : i < k) (z : List Int) : (evL tr r k ++ z)[i]? = some ((tr i).ev r) := by
 rw [List.getElem?_append_left (by rw [evL_len]; exact h)]
 simp [evL, h]
theorem evL_set (tr : Nat → Ex) (r : Pt) {k n : Nat} (h : k < n) : (evL tr r k ++ List.replicate (n - k) 0).set k ((tr k).ev r) = evL tr r (k + 1) ++ List.replicate (n - (k + 1)) 0 := by
 rw [List.set_append_right _ _ (by rw [evL_len]; exact Nat.le_refl _), evL_len, Nat.sub_self, show n - k = (n - (k + 1)) + 1 by omega, List.replicate_succ, List.set_cons_zero]
 simp [evL, List.range_succ]
theorem i6_info : (Tryz.prog.info? 2).map (fun i => (i.zero, i.size, i.bytes)) = some (some (.int .i64 0), 1, 8) := by kernel_rfl
def EvP (tr : Nat → Ex) (r : Pt) (n : Nat) (w : World) (e : Ending) (w' : World) : Prop := ∃ v, e = .returned (.tuple #[v, .int .i64 0]) ∧ Own ienc 1 w' w.heap.size 2 v (evL tr r n) ∧ Below w.heap.size w w'
set_option maxHeartbeats 16000000 in
set_option maxRecDepth 100000 in
theorem evall_any (e : Ex) (he : e.tgood) (r : Pt) (A : Option Addr) (c n : Nat) (w : World) (hn : e.size = n) (hr : Rd nenc 5 w w.heap.size A (e.flat 0)) :
  Calls Tryz.prog 73 #[.slice A n c, .agg #[.int .i64 r.k, .int .i64 r.t, .int .i64 r.v]] w (EvP e.tr r n w) := by
 have h60 : n ≤ 60 := by have := he.1.2.1; omega
 have htr := trok_flat he.1.1
 have hln : (e.flat 0).length = n := by rw [flat_len]; exact hn
 have hch := fun W hb => echeck_any e he A c n W hn (hr.grow hb)
 have hmk := fun W => make_run (P := Tryz.prog) i6_info Tryz.underlying127 in_len 0 rfl (by decide) (by decide) n (by omega) W
 have hmo := fun base W hb => make_own in_len 0 2 n (by omega) base W hb
 obtain ⟨M, hM⟩ : ∃ M, M = ((List.replicate n 0).flatMap ienc).toArray := ⟨_, rfl⟩
 rw [← hM] at hmk hmo
 have HCH := Lib.hid hch; have HTR := Lib.hid htr; have HLN := Lib.hid hln; have HMO := Lib.hid hmo
 clear hch htr hln hmo hM hn
 go_enter Tryz.func73, Tryz.ntmps73
 go_wp2_with fail
 have hl0 := (Loc.nil w).new [.int .i64 r.k, .int .i64 r.t, .int .i64 r.v] 47
 have hb0 : Below w.heap.size w (w.alloc (.cells #[.int .i64 r.k, .int .i64 r.t, .int .i64 r.v] 47)) := below_new (Below.refl _ _) _
 go_at_call 103
 refine (HCH.out _ hb0).mono ?_
 rintro q w2 ⟨rfl, hb2⟩
 have hl2 := hl0.below hb2
 have hbb := below_then hb0 hb2
 clear hl0 hb0 hb2
 have hF := hl2
 (repeat unfold Loc at hF)
 go_wp2_with fail
 obtain ⟨f, hf⟩ : ∃ f, w2.heap.size = f := ⟨_, rfl⟩
 have hown := HMO.out (f + 1) (w2.alloc (.cells #[.int .i64 0, .int .i64 0, .int .i64 r.k, .int .i64 r.t, .int .i64 r.v] 116)) (by rw [World.size_alloc, hf]; exact Nat.le_refl _)
 have hlf := ((Loc.nil w2).new [.int .i64 0, .int .i64 0, .int .i64 r.k, .int .i64 r.t, .int .i64 r.v] 116).old (.cells M 2)
 have hbz : Below w.heap.size w ((w2.alloc (.cells #[.int .i64 0, .int .i64 0, .int .i64 r.k, .int .i64 r.t, .int .i64 r.v] 116)).alloc (.cells M 2)) := below_new (below_new hbb _) _
 rw [World.size_alloc] at hown
 rw [hf] at hown hlf
 have hwf : w.heap.size ≤ f := by rw [← hf]; exact hbb.size
 simp only [hf]
 clear hF hl2 hmk hbb
 have HF := Lib.hid hf
 clear hf
 go_loopw [30] (fun i wr => ∃ k : Nat, k ≤ n ∧ i = .int .i64 k ∧ Own ienc 1 wr (f + 1) 2 (.slice (some ⟨f + 1, 0, none⟩) n n) (evL e.tr r k ++ List.replicate (n - k) 0) ∧ Loc wr [(f, [.int .i64 0, .int .i64 0, .int .i64 r.k, .int .i64 r.t, .int .i64 r.v])] ∧ Below w.heap.size w wr) (fun i _ => n - (intOf i).toNat)
 case atStart => exact ⟨0, Nat.zero_le _, rfl, by simpa [evL] using hown, hlf, hbz⟩
 case round =>
  obtain ⟨k, hk, rfl, ownr, hlr, hb⟩ := hrel
  clear hown hlf hbz
  by_cases hlt : k < n
  ·obtain ⟨x, hx⟩ : ∃ x, (e.flat 0)[k]? = some x := ⟨_, List.getElem?_eq_getElem (by rw [HLN.out]; exact hlt)⟩
   obtain ⟨b, off, rfl, hbb, f0, f1, f2, f3, f4⟩ := nd_cells (rd_grown hr hb) hx
   have d1 : decide ((k : Int) < (n : Int)) = true := by simp; omega
   have d1' : decide (k < n) = true := by simp [hlt]
   have k1 : (0 : Int) ≤ (k : Int) := by omega
   have k2 : (k : Int) < (n : Int) := by omega
   have e1 : IntKind.i64.wrap ((k : Int) + 1) = (k : Int) + 1 := IntWalk.i64_in _ (by omega)
   have hdec := HTR.out k x hx
   have hset := evL_set e.tr r hlt
   have hold : (evL e.tr r k ++ List.replicate (n - k) 0)[k]? = some 0 := by
    rw [List.getElem?_append_right (by rw [evL_len]; exact Nat.le_refl _), evL_len, Nat.sub_self]
    rw [List.getElem?_replicate, if_pos (by omega)]
   have hfz := own_frozen ownr
   have hrv := Own.rd in_len ownr
   have HL := Lib.hid hlt; have HSET := Lib.hid hset; have HOLD := Lib.hid hold
   obtain ⟨b2, o2, hbe, hbl, q0⟩ := in_at hrv hold
   cases hbe
   (try simp only [Nat.zero_add] at q0)
   clear hx hlt hset hold
   have hF := hlr
   (repeat unfold Loc at hF)
   obtain ⟨xk, xn, xa, xb, xp⟩ := x
   simp only at f0 f1 f2 f3 f4
   rcases hdec with ⟨e', hk', ha0, hb0, hp⟩ | ⟨j, hj, e', hk', hn0, ha, hb0, hp⟩ | ⟨j, m, hj, hm, e', hk', hn0, ha, hb0, hp⟩
   ·have h4 : xk ≤ 4 := hk'.1.2
    have h1 : 1 ≤ xk := hk'.1.1
    have d4 : decide (xk ≤ 4) = true := by simp [h4]
    have hev : (e.tr k).ev r = if xk = 1 then xn else if xk = 2 then r.k else if xk = 3 then r.t else r.v := by rw [e']; rfl
    have HEV := Lib.hid hev
    clear e' hk' ha0 hb0 hp hev d4
    have hc : xk = 1 ∨ xk = 2 ∨ xk = 3 ∨ xk = 4 := by omega
    clear h4 h1
    rcases hc with rfl | rfl | rfl | rfl
    all_goals
     go_wp2_with fail
     go_roundw
     case rel => exact ⟨k + 1, HL.out, by go_num, by rw [← HSET.out, HEV.out]; exact (own_put1 in_len _ ownr HOLD.out (j := 0) (q := k) (by decide) rfl (by omega)).alloc _, (Loc.far (p := ⟨f + 1, k, none⟩) _ (by intro q hq; rw [List.mem_singleton] at hq; subst hq; dsimp only; omega) hlr).old _, below_new (below_put hb (by dsimp only; omega) _) _⟩
     case measure => simp [intOf]; omega
   ·obtain rfl : xn = 0 := hn0
    obtain rfl : xa = j := ha
    obtain rfl : xb = 0 := hb0
    have hkk : 5 ≤ xk ∧ xk ≤ 19 := by have : xk = 5 ∨ xk = 6 := hk'; omega
    have hjk : j < k := by omega
    obtain ⟨va, hva⟩ : ∃ v, (e.tr j).ev r = v := ⟨_, rfl⟩
    obtain ⟨vb, hvb⟩ : ∃ v, (e.tr 0).ev r = v := ⟨_, rfl⟩
    have hxa := evL_at e.tr r (i := j) (k := k) (by omega) (List.replicate (n - k) 0)
    have hxb := evL_at e.tr r (i := 0) (k := k) (by omega) (List.replicate (n - k) 0)
    obtain ⟨b3, o3, hbe, -, q1⟩ := in_at hrv hxa
    cases hbe
    obtain ⟨b4, o4, hbe, -, q2⟩ := in_at hrv hxb
    cases hbe
    rw [hva] at q1
    rw [hvb] at q2
    (try simp only [Nat.zero_add] at q1)
    (try simp only [Nat.zero_add] at q2)
    have hev : (e.tr k).ev r = doI xk va vb := by rw [e']; simp only [Ex.ev, hva]; exact doI_un hk' _ _ _
    have hdo : ∀ W, Calls Tryz.prog 104 #[.int .u8 xk, .int .i64 va, .int .i64 vb] W fun e w' => e = .returned (.tuple #[.int .i64 (doI xk va vb), .int .i64 0]) ∧ w' = W := fun W => (ido_any xk va vb hkk W).mono fun _ _ h => ⟨h.1, h.2.symm⟩
    have HEV := Lib.hid hev; have HDO := Lib.hid hdo
    have d4 : decide (xk ≤ 4) = false := by simp; omega
    have d5 : (xk == 1) = false := by simp; omega
    have m0 : (0 : Int) ≤ (j : Int) := by omega
    have m1 : (j : Int) < (n : Int) := by omega
    have m2 : (0 : Int) ≤ (j : Int) := by omega
    have m3 : (j : Int) < (n : Int) := by omega
    have m4 : (0 : Int) < (n : Int) := by omega
    clear hkk hj e' hk' hp hva hvb hxa hxb hev hdo
    go_wp2_with fail
    go_quiet ((go_at_call 104; exact Calls.quiet_of_same (HDO.out _)))
    go_wp2_with fail
    go_roundw
    case rel => exact ⟨k + 1, HL.out, by go_num, by rw [← HSET.out, HEV.out]; exact own_put1 in_len _ ((ownr.alloc _).below (below_drewN (Below.refl _ _) _)) HOLD.out (j := 0) (q := k) (by decide) rfl (by omega), Loc.far (p := ⟨f + 1, k, none⟩) _ (by intro q hq; rw [List.mem_singleton] at hq; subst hq; dsimp only; omega) ((hlr.old _).below (below_drewN (Below.refl _ _) _)), below_put (below_drewN (below_new hb _) _) (by dsimp only; omega) _⟩
    case measure => simp [intOf]; omega
   ·obtain rfl : xn = 0 := hn0
    obtain rfl : xa = m := ha
    obtain rfl : xb = j := hb0
    have hkk : 5 ≤ xk ∧ xk ≤ 19 := by have : 7 ≤ xk ∧ xk ≤ 19 := hk'; omega
    have hjk : j < k := by omega
    have hs1 := (e.tr j).size_pos
    have hmk : m < k := by omega
    obtain ⟨va, hva⟩ : ∃ v, (e.tr m).ev r = v := ⟨_, rfl⟩
    obtain ⟨vb, hvb⟩ : ∃ v, (e.tr j).ev r = v := ⟨_, rfl⟩
    have hxa := evL_at e.tr r (i := m) (k := k) (by omega) (List.replicate (n - k) 0)
    have hxb := evL_at e.tr r (i := j) (k := k) (by omega) (List.replicate (n - k) 0)
    obtain ⟨b3, o3, hbe, -, q1⟩ := in_at hrv hxa
    cases hbe
    obtain ⟨b4, o4, hbe, -, q2⟩ := in_at hrv hxb
    cases hbe
    rw [hva] at q1
    rw [hvb] at q2
    (try simp only [Nat.zero_add] at q1)
    (try simp only [Nat.zero_add] at q2)
    have hev : (e.tr k).ev r = doI xk va vb := by rw [e']; simp only [Ex.ev, hva, hvb]
    have hdo : ∀ W, Calls Tryz.prog 104 #[.int .u8 xk, .int .i64 va, .int .i64 vb] W fun e w' => e = .returned (.tuple #[.int .i64 (doI xk va vb), .int .i64 0]) ∧ w' = W := fun W => (ido_any xk va vb hkk W).mono fun _ _ h => ⟨h.1, h.2.symm⟩
    have HEV := Lib.hid hev; have HDO := Lib.hid hdo
    have d4 : decide (xk ≤ 4) = false := by simp; omega
    have d5 : (xk == 1) = false := by simp; omega
    have m0 : (0 : Int) ≤ (m : Int) := by omega
    have m1 : (m : Int) < (n : Int) := by omega
    have m2 : (0 : Int) ≤ (j : Int) := by omega
    have m3 : (j : Int) < (n : Int) := by omega
    have m4 : (0 : Int) < (n : Int) := by omega
    clear hkk hj e' hk' hp hva hvb hxa hxb hev hdo hm hs1
    go_wp2_with fail
    go_quiet ((go_at_call 104; exact Calls.quiet_of_same (HDO.out _)))
    go_wp2_with fail
    go_roundw
    case rel => exact ⟨k + 1, HL.out, by go_num, by rw [← HSET.out, HEV.out]; exact own_put1 in_len _ ((ownr.alloc _).below (below_drewN (Below.refl _ _) _)) HOLD.out (j := 0) (q := k) (by decide) rfl (by omega), Loc.far (p := ⟨f + 1, k, none⟩) _ (by intro q hq; rw [List.mem_singleton] at hq; subst hq; dsimp only; omega) ((hlr.old _).below (below_drewN (Below.refl _ _) _)), below_put (below_drewN (below_new hb _) _) (by dsimp only; omega) _⟩
    case measure => simp [intOf]; omega
  ·obtain rfl : k = n := by omega
   have d1 : decide ((k : Int) < (k : Int)) = false := by simp
   have d1' : decide (k < k) = false := by simp
   go_wp2_with fail
   go_ret2
   rw [Nat.sub_self, List.replicate_zero, List.append_nil] at ownr
   exact ⟨_, rfl, ownr.mono (by omega), hb⟩
set_option maxHeartbeats 4000000 in
theorem evof_any (e : Ex) (he : e.tgood) (r : Pt) (A : Option Addr) (c n : Nat) (w : World) (hn : e.size = n) (hr : Rd nenc 5 w w.heap.size A (e.flat 0)) :
  Calls Tryz.prog 32 #[.slice A n c, .agg #[.int .i64 r.k, .int .i64 r.t, .int .i64 r.v]] w fun q w' => q = .returned (.tuple #[.int .i64 (e.ev r), .int .i64 0]) ∧ Below w.heap.size w w' := by
 have hpos := e.size_pos
 obtain ⟨m, rfl⟩ : ∃ m, n = m + 1 := ⟨n - 1, by omega⟩
 have h60 : m + 1 ≤ 60 := by have := he.1.2.1; omega
 have hd : e.tr m = e := by have h := tr_last e; rw [hn] at h; exact h
 have hat : (evL e.tr r (m + 1))[m]? = some (e.ev r) := by have := evL_at e.tr r (i := m) (k := m + 1) (by omega) []; rwa [List.append_nil, hd] at this
 have hall := fun W hb => evall_any e he r A c (m + 1) W hn (hr.grow hb)
 have HALL := Lib.hid hall; have HAT := Lib.hid hat
 clear hall hat hd hn hpos
 have hb0 : Below w.heap.size w (w.alloc (.cells #[.int .i64 r.k, .int .i64 r.t, .int .i64 r.v] 47)) := below_new (Below.refl _ _) _
 go_enter Tryz.func32, Tryz.ntmps32
 go_wp2_with fail
 go_at_call 73
 refine (HALL.out _ hb0).mono ?_
 rintro q w2 ⟨v, rfl, own, hb2⟩
 obtain ⟨Av, cv, rfl, -, -⟩ := own_shape_z own (n := m + 1) (evL_len _ _ _)
 obtain ⟨b, off, rfl, hbb, f0⟩ := in_at (Own.rd in_len own) HAT.out
 go_wp2_with fail
 go_ret2
 exact ⟨rfl, below_then hb0 hb2⟩
end Go.Proofs.YtnljihjhmgpcoaaGreat
