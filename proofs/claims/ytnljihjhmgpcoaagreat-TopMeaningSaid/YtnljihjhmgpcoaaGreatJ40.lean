/- Lemmas and contracts for the statement, joined into one text: FoldBuild, FoldFold, GraphAdd. The conditions of each stand at its head. -/
import Derived.Test.YtnljihjhmgpcoaaGreatJ37
import Derived.Test.YtnljihjhmgpcoaaGreatJ33
import Derived.Test.YtnljihjhmgpcoaaGreatJ1
import Derived.Test.YtnljihjhmgpcoaaGreatJ39
import Derived.Test.YtnljihjhmgpcoaaGreatJ38
import Derived.Test.YtnljihjhmgpcoaaGreatJ32
import Derived.Test.YtnljihjhmgpcoaaGreatJ3
namespace Go.Proofs.YtnljihjhmgpcoaaGreat
open Go Go.RowKit Go.ChangeShapes Go.WideShapes Go.ChangeAt Go.Deep
/-- A value that is there or not. -/
structure Mf where
 v : Value
 th : Bool
def mf0 : Mf := ⟨.slice none 0 0, false⟩
def mfenc (x : Mf) : List Value := [x.v, .bool x.th]
theorem mf_len (x : Mf) : (mfenc x).length = 2 := rfl
/-- The forms that are there stand for their nodes. -/
def FmsOk (tr : Nat → Ex) (fs : List Mf) (W : World) : Prop := ∀ (i : Nat) (x : Mf), fs[i]? = some x → x.th = true → ∃ (e' : Ex) (d : Sl), Fo (tr i) e' ∧ x.v = .slice d.a d.n d.c ∧ slOk nenc 5 W d (e'.flat 0)
theorem slOk.grow {α : Type} {enc : α → List Value} {sz : Nat} {w w' : World} {d : Sl} {l : List α} (h : slOk enc sz w d l) (hb : Below w.heap.size w w') : slOk enc sz w' d l := ⟨h.1, h.2.1, h.2.2.1, h.2.2.2.grow hb⟩
theorem FmsOk.grow {tr : Nat → Ex} {fs : List Mf} {W W' : World} (h : FmsOk tr fs W) (hb : Below W.heap.size W W') : FmsOk tr fs W' := fun i x hx ht => by
 obtain ⟨e', d, h1, h2, h3⟩ := h i x hx ht
 exact ⟨e', d, h1, h2, h3.grow hb⟩
theorem mf_cells {w : World} {B : Nat} {A : Option Addr} {l : List Mf} (h : Rd mfenc 2 w B A l) {k : Nat} {x : Mf} (hx : l[k]? = some x) : ∃ b off, A = some ⟨b, off, none⟩ ∧ b < B ∧ w.cell? ⟨b, off + k * 2, none⟩ = some x.v ∧ w.cell? ⟨b, off + k * 2 + 1, none⟩ = some (.bool x.th) := by
 obtain ⟨b, off, e, hb, hc⟩ := h.at_ hx
 exact ⟨b, off, e, hb, by simpa using hc 0 _ rfl, hc 1 _ rfl⟩
/-- The parts of a node: where they stand, and what they are. -/
structure Kids (tr : Nat → Ex) (i : Nat) (x : Nd) (ix : List Nat) : Prop where
 cnt : ix.length = prtN x.k
 two : ix.length ≤ 2
 lt : ∀ j ∈ ix, j < i
 cut : (([x.a, x.b] : List Int).take ix.length) = ix.map fun (j : Nat) => (j : Int)
 num : 0 ≤ x.n ∧ (x.n ≠ 0 → x.k = 1)
 fo : (tr i).ok → (tr i).wt = true → ∀ es : List Ex, es.length = ix.length → (∀ (q : Nat) (j : Nat) (e' : Ex), ix[q]? = some j → es[q]? = some e' → Fo (tr j) e') → Fo (tr i) (mkE x.k x.n x.p es)
theorem kids_of {tr : Nat → Ex} {i : Nat} {x : Nd} (h : NodeAt tr i x) (hpos : ∀ j, 1 ≤ (tr j).size) : ∃ ix, Kids tr i x ix := by
 rcases h with ⟨e, hk, ha, hb, hp⟩ | ⟨j, hj, e, hk, hn0, ha, hb, hp⟩ | ⟨j, m, hj, hm, e, hk, hn0, ha, hb, hp⟩
 ·refine ⟨[], ?_, by simp, by simp, by simp, ⟨hk.2.1.1, fun h => Classical.byContradiction fun h2 => h (hk.2.2 h2)⟩, fun ho hw es hes _ => ?_⟩
  ·have := hk.1; unfold prtN; rw [if_pos (by omega)]; rfl
  ·obtain rfl := List.eq_nil_of_length_eq_zero hes
   rw [e] at ho hw ⊢
   exact Fo.refl ho hw
 ·refine ⟨[j], ?_, by simp, by intro q hq; rw [List.mem_singleton] at hq; omega, by simp [ha], ⟨by omega, fun h => absurd hn0 h⟩, fun ho hw es hes hf => ?_⟩
  ·unfold prtN; rw [if_neg (by omega), if_pos (by omega)]; rfl
  ·match es, hes with
   | [e1], _ =>
    have h1 := hf 0 j e1 rfl rfl
    rw [e] at ho hw ⊢
    exact Fo.un h1 ho hw
 ·refine ⟨[m, j], ?_, by simp, ?_, by simp [ha, hb], ⟨by omega, fun h => absurd hn0 h⟩, fun ho hw es hes hf => ?_⟩
  ·unfold prtN; rw [if_neg (by omega), if_neg (by omega)]; rfl
  ·have := hpos j
   intro q hq
   simp only [List.mem_cons, List.not_mem_nil, or_false] at hq
   rcases hq with rfl | rfl <;> omega
  ·match es, hes with
   | [e1, e2], _ =>
    have h1 := hf 0 m e1 rfl rfl
    have h2 := hf 1 j e2 rfl rfl
    rw [e] at ho hw ⊢
    exact Fo.bn h1 h2 ho hw
def BldP (t : Ex) (w : World) (r : Ending) (w' : World) : Prop := ∃ v e', r = .returned (.tuple #[v, .int .i64 0]) ∧ Fo t e' ∧ Own nenc 5 w' w.heap.size 133 v (e'.flat 0) ∧ Below w.heap.size w w'
theorem sls_info : (Tryz.prog.info? 22).map (fun i => (i.zero, i.size, i.bytes)) = some (some (.slice none 0 0), 1, 24) := by kernel_rfl
theorem sls_el : ElOk Tryz.prog 267 22 1 24 := elOk sls_info Tryz.underlying267 rfl (by decide) (by decide)
theorem own_types {α β : Type} {enc : α → List Value} {enc' : β → List Value} {sz sz' : Nat} {w : World} {base base' : Nat} {e e' : TypeId} {v u : Value} {l : List α} {l' : List β} (h : Own enc sz w base e v l) (h' : Own enc' sz' w base' e' u l') (hne : e ≠ e') : v.ownBlock = none ∨ v.ownBlock ≠ u.ownBlock := by
 rcases h.2 with ⟨rfl, _⟩ | ⟨g, cap, cur, rfl, hb, hg, _⟩
 ·exact .inl rfl
 ·refine .inr fun h1 => ?_
  rcases h'.2 with ⟨rfl, _⟩ | ⟨g', cap', cur', rfl, hb', hg', _⟩
  ·cases h1
  ·have h2 : some g = some g' := h1
   obtain rfl := Option.some.inj h2
   rw [hg] at hg'
   simp only [Option.some.injEq, Obj.cells.injEq] at hg'
   exact hne hg'.2.1
/-- The parts built so far. -/
def PtsOk (tr : Nat → Ex) (ix : List Nat) (ds : List Sl) (es : List Ex) (base : Nat) (W : World) : Prop := ∀ (q : Nat) (d : Sl) (e' : Ex), ds[q]? = some d → es[q]? = some e' → Own nenc 5 W base 133 (.slice d.a d.n d.c) (e'.flat 0) ∧ ∀ j, ix[q]? = some j → Fo (tr j) e'
theorem PtsOk.below {tr : Nat → Ex} {ix : List Nat} {ds : List Sl} {es : List Ex} {base : Nat} {W W' : World} (h : PtsOk tr ix ds es base W) (hb : Below W.heap.size W W') : PtsOk tr ix ds es base W' := fun q d e' h1 h2 => ⟨(h q d e' h1 h2).1.below hb, (h q d e' h1 h2).2⟩
theorem PtsOk.app {tr : Nat → Ex} {ix : List Nat} {ds : List Sl} {es : List Ex} {base base' : Nat} {W W' : World} {u : Value} {l : List Sl} (h : PtsOk tr ix ds es base W) (ho : Own slE 1 W base' 22 u l) (hg : W.grownBy W' u.ownBlock) : PtsOk tr ix ds es base W' := fun q d e' h1 h2 =>
 ⟨(h q d e' h1 h2).1.grown hg (own_types (h q d e' h1 h2).1 ho (by decide)), (h q d e' h1 h2).2⟩
theorem PtsOk.snoc {tr : Nat → Ex} {ix : List Nat} {ds : List Sl} {es : List Ex} {base k : Nat} {W : World} {d : Sl} {e' : Ex} {j : Nat} (h : PtsOk tr ix ds es base W) (h1 : ds.length = k) (h2 : es.length = k) (hj : ix[k]? = some j) (ho : Own nenc 5 W base 133 (.slice d.a d.n d.c) (e'.flat 0)) (hf : Fo (tr j) e') : PtsOk tr ix (ds ++ [d]) (es ++ [e']) base W := fun q d' f hd hf' => by
 by_cases hq : q < k
 ·rw [List.getElem?_append_left (by omega)] at hd hf'
  exact h q d' f hd hf'
 ·have hlt := (List.getElem?_eq_some_iff.1 hd).1
  simp at hlt
  obtain rfl : q = k := by omega
  rw [List.getElem?_append_right (by omega)] at hd hf'
  simp [h1] at hd
  simp [h2] at hf'
  subst hd; subst hf'
  exact ⟨ho, fun j' hj' => by rw [hj] at hj'; obtain rfl := Option.some.inj hj'; exact hf⟩
set_option maxHeartbeats 16000000 in
set_option maxRecDepth 100000 in
theorem build_any {l : List Nd} {tr : Nat → Ex} (htr : TrOk l tr) (A : Option Addr) (n c : Nat) (hln : l.length = n) (h60 : n ≤ 60) (hgd : ∀ i, i < n → (tr i).good ∧ (tr i).wt = true) (F : Option Addr) (cf : Nat) (fs : List Mf) (hfs : fs.length = n) :
  ∀ (m i : Nat), i < m → i < n → ∀ w : World, Rd nenc 5 w w.heap.size A l → Rd mfenc 2 w w.heap.size F fs → FmsOk tr fs w → Calls Tryz.prog 153 #[.slice A n c, .slice F n cf, .int .i64 i] w (BldP (tr i) w)
 | 0, _, h, _, _, _, _, _ => absurd h (Nat.not_lt_zero _)
 | m + 1, i, him, hin, w, hr, hrf, hok => by
  have IH := Lib.hid (fun j (hj : j < i) W (hb : Below w.heap.size w W) => build_any htr A n c hln h60 hgd F cf fs hfs m j (by omega) (by omega) W (hr.grow hb) (hrf.grow hb) (hok.grow hb))
  obtain ⟨x, hx⟩ : ∃ x, l[i]? = some x := ⟨_, List.getElem?_eq_getElem (by omega)⟩
  obtain ⟨y, hy⟩ : ∃ y, fs[i]? = some y := ⟨_, List.getElem?_eq_getElem (by omega)⟩
  obtain ⟨ix, kids⟩ := kids_of (htr i x hx) (fun j => (tr j).size_pos)
  obtain ⟨bf, of_, rfl, hbf, c0, c1⟩ := mf_cells hrf hy
  obtain ⟨b, off, rfl, hbb, f0, f1, f2, f3, f4⟩ := nd_cells hr hx
  have hoy := hok i y hy
  have i1 : (0 : Int) ≤ (i : Int) := by omega
  have i2 : (i : Int) < (n : Int) := by omega
  obtain ⟨yv, yt⟩ := y
  simp only at c0 c1 hoy
  cases yt with
  | true =>
   obtain ⟨e', d, g1, rfl, g3⟩ := hoy rfl
   have hs := Fo.const g1 (hgd i hin).1
   have HCL := Lib.hid (ndclone_any d.a d.c d.n (e'.flat 0) w g3.1 g3.2.2.1 (by have h1 := g3.1; have h2 := hs.2.1; rw [flat_len] at h1; omega) g3.2.2.2)
   have HG := Lib.hid g1
   clear IH kids hoy hr hrf hok hx hy f0 f1 f2 f3 f4 g1 g3 hs
   obtain ⟨da, dn, dc⟩ := d
   go_enter Tryz.func153, Tryz.ntmps153
   go_wp2_with fail
   go_at_call 60
   refine HCL.out.mono ?_
   rintro r w2 ⟨v, rfl, own, hb⟩
   go_wp2_with fail
   go_ret2
   exact ⟨_, e', rfl, HG.out, own, hb⟩
  | false =>
   obtain ⟨N, hN⟩ : ∃ N, ix.length = N := ⟨_, rfl⟩
   obtain ⟨xk, xn, xa, xb, xp⟩ := x
   obtain ⟨q1, q2, q3, q4, q5, q6⟩ := kids
   simp only at f0 f1 f2 f3 f4 q1 q4 q5 q6
   have hkk : 1 ≤ xk ∧ xk ≤ 19 := by
    rcases htr i _ hx with ⟨e, hk, _⟩ | ⟨j, hj, e, hk, _⟩ | ⟨j, mm, hj, hm, e, hk, _⟩
    ·have := hk.1; simp only at this; omega
    ·simp only at hk; omega
    ·simp only at hk; omega
   rw [hN] at q1 q2 q4
   have HP := Lib.hid (fun W => q1 ▸ nparts_any xk hkk W)
   have hgi := hgd i hin
   have HQ4 := Lib.hid q4; have HFO := Lib.hid (q6 hgi.1.1 hgi.2); have HLT := Lib.hid q3; have HN := Lib.hid hN; have HGI := Lib.hid hgi.1; have HPR := Lib.hid q1; have HNUM := Lib.hid q5
   obtain ⟨mb, hmb⟩ : ∃ mb, w.heap.size = mb := ⟨_, rfl⟩
   have HMB := Lib.hid hmb
   have n1 : (0 : Int) ≤ (N : Int) := by omega
   have n2 : (N : Int) ≤ 2 := by omega
   have hl1 := ((Loc.nil w).new [.int .u8 xk, .int .i64 xn, .int .i64 xa, .int .i64 xb, .int .i64 xp] 133).new [.int .i64 xa, .int .i64 xb] 3
   rw [World.size_alloc, hmb] at hl1
   have hb1 : Below w.heap.size w ((w.alloc (.cells #[.int .u8 xk, .int .i64 xn, .int .i64 xa, .int .i64 xb, .int .i64 xp] 133)).alloc (.cells #[.int .i64 xa, .int .i64 xb] 3)) := below_new (below_new (Below.refl _ _) _) _
   clear hoy hx hy hrf hok q1 q3 q4 q5 q6 hN hkk hgi hgd htr hln hfs hr him
   go_enter Tryz.func153, Tryz.ntmps153
   go_wp2_with fail
   go_at_call 158
   refine (HP.out _).mono ?_
   rintro r w2 ⟨rfl, rfl⟩
   go_wp2_with fail
   (try simp only [HMB.out])
   go_loopw [11, 45] (fun v i wr => ∃ (k : Nat) (ds : List Sl) (es : List Ex), k ≤ N ∧ i = .int .i64 k ∧ ds.length = k ∧ es.length = k ∧ Own slE 1 wr (mb + 2) 22 v ds ∧ PtsOk tr ix ds es mb wr ∧ Loc wr [(mb + 1, [.int .i64 xa, .int .i64 xb]), (mb, [.int .u8 xk, .int .i64 xn, .int .i64 xa, .int .i64 xb, .int .i64 xp])] ∧ Below w.heap.size w wr) (fun _ i _ => N - (intOf i).toNat)
   case atStart => exact ⟨0, [], [], Nat.zero_le _, rfl, rfl, rfl, Own.nil _ _ _, (fun q d e' h => by simp at h), hl1, hb1⟩
   case round =>
    obtain ⟨k, ds, es, hk, rfl, hds, hes, own, hpt, hl, hb⟩ := hrel
    clear hl1 hb1 hmb f0 f1 f2 f3 f4 c0 c1
    by_cases hlt : k < N
    ·obtain ⟨j, hj⟩ : ∃ j, ix[k]? = some j := ⟨_, List.getElem?_eq_getElem (by rw [HN.out]; exact hlt)⟩
     have hji := HLT.out j (List.mem_of_getElem? hj)
     have hcj : ([xa, xb] : List Int)[k]? = some (j : Int) := by
      have h1 : (([xa, xb] : List Int).take N)[k]? = some (j : Int) := by rw [HQ4.out]; simp [hj]
      rwa [List.getElem?_take, if_pos hlt] at h1
     have hcell : wr.cell? ⟨mb + 1, k, none⟩ = some (.int .i64 (j : Int)) := by
      rw [hl.2.1 k]
      match k, hcj with
      | 0, h => simp at h; simp [h]
      | 1, h => simp at h; simp [h]
     have HIH := Lib.hid (IH.out j hji wr hb)
     have d1 : decide ((k : Int) < (N : Int)) = true := by simp; omega
     have d1' : decide (k < N) = true := by simp [hlt]
     have k1 : (0 : Int) ≤ (k : Int) := by omega
     have k2 : (k : Int) < (N : Int) := by omega
     have e1 : IntKind.i64.wrap ((k : Int) + 1) = (k : Int) + 1 := IntWalk.i64_in _ (by omega)
     obtain ⟨Av, cv, rfl, -, -⟩ := own_shape_z own hds
     have HL := Lib.hid hlt; have HJ := Lib.hid hj; have HPT := Lib.hid hpt; have HDS := Lib.hid hds; have HES := Lib.hid hes
     have hz := hl.1
     clear hlt hj hji hcj hpt hds hes
     go_wp2_with fail
     go_at_call 153
     refine HIH.out.mono ?_
     rintro r w5 ⟨v5, e5, rfl, hfo, own5, hb5⟩
     obtain ⟨n5, hn5⟩ : ∃ n5, (e5.flat 0).length = n5 := ⟨_, rfl⟩
     obtain ⟨A5, c5, rfl, -, -⟩ := own_shape_z own5 hn5
     have hsz5 := hb5.size
     have HFO5 := Lib.hid hfo
     clear hfo hn5
     go_wp2_with (at_builtin; refine wpList_app sls_el rfl (.tmp 59) (.tmp 61) rfl (mb + 2) sl_len sl_one ds [⟨A5, n5, c5⟩] rfl ((own.below hb5).alloc _) rfl rfl (flat_new _ _ _ _ (by simp) _ rfl) (by rw [HDS.out]; omega) (by rw [World.size_alloc]; omega) ?_; intro v7 w7 own7 hgr7 hb7 hl7)
     have hpt7 : PtsOk tr ix (ds ++ [⟨A5, n5, c5⟩]) (es ++ [e5]) mb w7 := by
      refine PtsOk.app (PtsOk.snoc (((HPT.out.below hb5).below (below_new (Below.refl _ _) _))) HDS.out HES.out HJ.out ((own5.alloc _).mono (by omega)) HFO5.out) ((own.below hb5).alloc _) hgr7
     have hl8 := ((hl.below hb5).old _).grown hgr7 (by intro q hq; simp only [List.mem_cons, List.not_mem_nil, or_false] at hq; rcases hq with rfl | rfl <;> exact own_ltf own (by simp))
     have hb8 : Below w.heap.size w w7 := (((below_then hb hb5)).alloc (below_then hb hb5).size _).trans (Below.mono hb7 (by rw [HMB.out]; omega))
     go_roundw
     case rel => exact ⟨k + 1, _, es ++ [e5], HL.out, by go_num, by simp [HDS.out], by simp [HES.out], own7, hpt7, hl8, hb8⟩
     case measure => have := HL.out; simp [intOf]; omega
    ·obtain rfl : k = N := by omega
     have d1 : decide ((k : Int) < (k : Int)) = false := by simp
     have d1' : decide (k < k) = false := by simp
     obtain ⟨Av, cv, rfl, -, -⟩ := own_shape_z own hds
     have hF1 := HFO.out es (by rw [hes, HN.out]) (fun q j e' hq he' => by
      obtain ⟨d, hd⟩ : ∃ d, ds[q]? = some d := ⟨_, List.getElem?_eq_getElem (by have := (List.getElem?_eq_some_iff.1 he').1; omega)⟩
      exact (hpt q d e' hd he').2 j hq)
     have hgm := Fo.const hF1 HGI.out
     have hrl : RdL nenc 5 wr Av (es.map (·.flat 0)) := ⟨ds, by simp [hds, hes], Own.rd sl_len own, fun q d ll hd hll => by
      have hq2 := (List.getElem?_eq_some_iff.1 hd).1
      obtain ⟨e', he'⟩ : ∃ e', es[q]? = some e' := ⟨_, List.getElem?_eq_getElem (by omega)⟩
      simp [he'] at hll
      subst hll
      have ho := (hpt q d e' hd he').1
      obtain ⟨da, dn, dc⟩ := d
      obtain ⟨A9, c9, e9, h9, z9⟩ := own_shape_z ho rfl
      injection e9 with z1 z2 z3
      exact ⟨z2.symm, by rw [z2, z3]; exact h9, by rw [z1, z3]; exact z9, Own.rd nenc_len ho⟩⟩
     have HND := Lib.hid (node_full xk xn xp es Av k cv wr hes HPR.out.symm HNUM.out.1 HNUM.out.2 hgm hrl)
     have HF1 := Lib.hid hF1
     have hF := hl
     (repeat unfold Loc at hF)
     clear hpt hF1 hgm hrl hds hes own
     go_wp2_with fail
     go_at_call 174
     refine HND.out.mono ?_
     rintro r w6 ⟨v6, rfl, own6, hb6⟩
     go_wp2_with fail
     go_ret2
     exact ⟨_, _, rfl, HF1.out, own6.mono hb.size, below_then hb hb6⟩
attribute [local go_sem] Oper.semAt_some
set_option maxHeartbeats 4000000 in
theorem part_any2 (e : Ex) (he : e.good) (A : Option Addr) (c n i : Nat) (w : World) (hn : e.size = n) (hi : i < n) (hc : n ≤ c) (hr : Rd nenc 5 w w.heap.size A (e.flat 0)) :
  Calls Tryz.prog 151 #[.slice A n c, .int .i64 i] w (PartP (e.tr i) w) := by
 have hs := nsize_any e he A c n i w hn hi hr
 obtain ⟨t1, t2, t3⟩ := tr_sub he.1 (by omega : i < e.size)
 have h60 : n ≤ 60 := by have := he.2.1; omega
 have hpos := Ex.size_pos (e.tr i)
 have hfl := flat_len e 0
 rw [hn] at hfl
 obtain ⟨f, hf⟩ : ∃ f, e.tr i = f := ⟨_, rfl⟩
 rw [hf] at t1 t2 t3 hpos hs ⊢
 obtain ⟨S, hS⟩ : ∃ S, f.size = S := ⟨_, rfl⟩
 rw [hS] at t1 t3 hpos hs
 obtain ⟨D, hD⟩ : ∃ D, i + 1 - S = D := ⟨_, rfl⟩
 rw [hD] at t3
 obtain ⟨j, hj⟩ : ∃ j, i + 1 = j := ⟨_, rfl⟩
 have hjD : j - D = S := by omega
 obtain ⟨b, off, rfl, -, -⟩ := hr (by intro h; rw [h] at hfl; simp at hfl; omega)
 have hcut := hr.cut D j (cap := c) (by omega) (by omega) (by omega)
 have hseg : ((e.flat 0).take j).drop D = f.flat (D : Int) := by
  rw [← t3, List.take_drop]
  congr 2; omega
 rw [hseg] at hcut
 have e1 : IntKind.i64.wrap ((i : Int) + 1) = (j : Int) := by rw [IntWalk.i64_in _ (by omega)]; omega
 have e2 : IntKind.i64.wrap ((j : Int) - (S : Int)) = (D : Int) := by rw [IntWalk.i64_in _ (by omega)]; omega
 have e3 : IntKind.i64.wrap (-(D : Int)) = -(D : Int) := IntWalk.i64_in _ (by omega)
 have f1 : (0 : Int) ≤ (D : Int) := by omega
 have f2 : (D : Int) ≤ (j : Int) := by omega
 have f3 : (j : Int) ≤ (c : Int) := by omega
 have f4 : (n : Int) ≤ (c : Int) := by omega
 have hA : Option.map (fun x : Addr => x.add (D * 5)) (some ⟨b, off, none⟩) = some ⟨b, off + D * 5, none⟩ := by simp only [Option.map, Addr.add]; split <;> simp_all
 rw [if_neg (by omega), hA] at hcut
 have hsh : (f.flat (D : Int)).map (shiftN (-(D : Int))) = f.flat 0 := by rw [flat_shift _ _ t2]; congr 1; omega
 have hm : ∀ W : World, Rd nenc 5 W W.heap.size (some ⟨b, off + D * 5, none⟩) (f.flat (D : Int)) → Calls Tryz.prog 172 #[.slice (some ⟨b, off + D * 5, none⟩) S (c - D), .int .i64 (-(D : Int))] W (fun r w' => ∃ v, r = .returned v ∧ Own nenc 5 w' W.heap.size 133 v (f.flat 0) ∧ Below W.heap.size W w') := fun W h => by
  have h1 := moved_any (f.flat (D : Int)) (-(D : Int)) (by omega) (flat_near t2 D (by omega)) (some ⟨b, off + D * 5, none⟩) (c - D) S W (by rw [flat_len, hS]) hpos (fun h => by cases h) (by omega) h
  unfold MovedP at h1
  rwa [hsh] at h1
 have H := Lib.hid hs; have HM := Lib.hid hm; have HCUT := Lib.hid hcut
 clear hs hm hcut hA hsh hseg t3 hf hS hD hj hfl hr he hn
 go_enter Tryz.func151, Tryz.ntmps151
 go_wp2_with fail
 go_at_call 171
 refine H.out.mono ?_
 rintro r x2 ⟨rfl, hc2⟩
 have hcu := HCUT.out.grow hc2
 go_wp2_with fail
 go_at_call 172
 refine (HM.out _ hcu).mono ?_
 rintro r x3 ⟨v, rfl, own, hc3⟩
 have hs2 := hc2.size
 go_wp2_with fail
 go_ret2
 exact ⟨_, rfl, own.mono (by first | exact hs2 | (simp; omega)), below_then hc2 hc3⟩
def mfOk (W : World) (base : Nat) (t : Ex) (x : Mf) : Prop := x.th = true → ∃ e', Fo t e' ∧ Own nenc 5 W base 133 x.v (e'.flat 0)
theorem mf_info : (Tryz.prog.info? 243).map (fun i => (i.zero, i.size, i.bytes)) = some (some (.agg #[.slice none 0 0, .bool false]), 2, 32) := by kernel_rfl
theorem own_mv {α : Type} {enc : α → List Value} {sz : Nat} {w w' : World} {base B : Nat} {e : TypeId} {v : Value} {l : List α} (h : Own enc sz w base e v l) (he : e ≠ 3) (hm : MvB B w w') : Own enc sz w' base e v l := by
 obtain ⟨h1, h2⟩ := h
 refine ⟨h1, ?_⟩
 rcases h2 with h2 | ⟨g, cap, cur, hv, hb, hg, r⟩
 ·exact .inl h2
 ·exact .inr ⟨g, cap, cur, hv, hb, (hm.block g (Array.getElem?_eq_some_iff.1 hg).1 (.inr ⟨_, _, _, he, hg⟩)).trans hg, r⟩
/-- What holds between two rounds. -/
structure FoldJ (e : Ex) (n : Nat) (w : World) (bx : List (Nat × List Value)) (A TA : Option Addr) (fg B : Nat) (W : World) : Prop where
 siz : B ≤ W.heap.size
 loc : Loc W bx
 nds : Rd nenc 5 W fg A (e.flat 0)
 tru : Rd blenc 1 W fg TA (givL e.tr n)
 low : Below w.heap.size w W
 frm : ∃ fs : List Mf, fs.length = n ∧ Own mfenc 2 W w.heap.size 243 (.slice (some ⟨fg, 0, none⟩) n n) fs ∧ ∀ i x, fs[i]? = some x → mfOk W w.heap.size (e.tr i) x
theorem FoldJ.stays {e : Ex} {n : Nat} {w : World} {bx : List (Nat × List Value)} {A TA : Option Addr} {fg B : Nat} (hbx : ∀ q ∈ bx, q.1 < B) (hB : w.heap.size ≤ B) (hfg : fg ≤ B) : StaysB B (FoldJ e n w bx A TA fg B) := fun W W' h hm => by
 obtain ⟨fs, f1, f2, f3⟩ := h.frm
 have hb := hm.below h.siz
 exact ⟨Nat.le_trans h.siz hm.size, h.loc.belowB hb hbx, h.nds.below (hb.mono hfg), h.tru.below (hb.mono hfg), h.low.trans (hb.mono hB),
  ⟨fs, f1, own_mv f2 (by decide) hm, fun i x hx ht => by obtain ⟨e', g1, g2⟩ := f3 i x hx ht; exact ⟨e', g1, own_mv g2 (by decide) hm⟩⟩⟩
theorem fold1_any (i n cf fb fg : Nat) (x : Mf) (fs : List Mf) (hn : fs.length = n) (hi : fs[i]? = some x) (W : World) (hb : W.cell? ⟨fb, 0, none⟩ = some (.slice (some ⟨fg, 0, none⟩) n cf)) (hr : Rd mfenc 2 W W.heap.size (some ⟨fg, 0, none⟩) fs) :
  Calls Tryz.prog 150 #[.int .i64 i, .pointer (some ⟨fb, 0, none⟩)] W fun r w' => (∃ b, r = .returned (.bool b)) ∧ w' = W := by
 obtain ⟨b, off, e, _, hc⟩ := hr.at_ hi
 simp only [Option.some.injEq, Addr.mk.injEq, and_true] at e
 obtain ⟨rfl, rfl⟩ := e
 have h1 := hc 1 _ rfl
 rw [Nat.zero_add] at h1
 have hlt := (List.getElem?_eq_some_iff.1 hi).1
 have i1 : (0 : Int) ≤ (i : Int) := by omega
 have i2 : (i : Int) < (n : Int) := by omega
 clear hc hr hi hn hlt
 go_enter Tryz.func150, Tryz.ntmps150
 go_wp2_with fail
 go_ret
 exact ⟨⟨_, rfl⟩, rfl⟩
theorem ftops_any (A : Option Addr) (n c : Nat) (fb : Nat) (W : World) : Calls Tryz.prog 149 #[.slice A n c, .func (.func 150) #[] #[.pointer (some ⟨fb, 0, none⟩)]] W fun r w' =>
  r = .returned (.func (.func 170) #[] #[.pointer (some ⟨W.heap.size, 0, none⟩), .pointer (some ⟨W.heap.size + 1, 0, none⟩)]) ∧ w' = (W.alloc (.cells #[.slice A n c] 22)).alloc (.cells #[.func (.func 150) #[] #[.pointer (some ⟨fb, 0, none⟩)]] 201) := by
 go_enter Tryz.func149, Tryz.ntmps149
 go_wp2_with fail
 go_ret
 exact ⟨rfl, rfl⟩
theorem wpIn_rangeFunc_nat {F : Fence} {n : Nat} {P : Program} {g : Operand} {assign body : Code} {Q : Exit → Act → World → Prop} {a : Act} {w : World} (p1 q : Nat)
  (hro : F.round = none) (h1 : 1 ≤ n) {gf : Nat} {lb : Array Value} (hg : a.eval g = .func (.func gf) #[] lb) (hFg : F.fn gf) (eg : ∀ args w, (callFunc gf args).run P w = .ok (.enter gf args) w)
  {ok : Nat → Prop} {Jn : World → Prop} (hseq : SeqJ F (n - 1) P gf lb (fun i : Nat => #[Value.int .i64 (i : Int)]) ok Jn)
  (J : World → Prop) (hJ : StaysB w.heap.size J) (hJn : ∀ W, J W → Jn W) (h0 : J w)
  (hassign : ∀ (l : Nat) (i : Nat) (W : World) (K : Act → World → Prop), K { tmps := (a.tmps.setIfInBounds p1 (.int .i64 (i : Int))).setIfInBounds q (.int .i64 (i : Int)), defers := [] } W →
   assign.wpIn (F.inRound l) (n - 1 - 1) P (Exit.then K (fun _ _ _ => False)) { tmps := a.tmps.setIfInBounds p1 (.int .i64 (i : Int)), defers := [] } W)
  (hbody : ∀ (l : Nat) (i : Nat) (W : World), ok i → J W → w.heap.size + 2 ≤ W.heap.size → body.wpIn (F.inRound l) (n - 1 - 1) P (postJ w.heap.size J W) { tmps := (a.tmps.setIfInBounds p1 (.int .i64 (i : Int))).setIfInBounds q (.int .i64 (i : Int)), defers := [] } W)
  (hdone : ∀ (D : Nat) (W : World), w.heap.size ≤ D → J W → W.heap[D]? = some (.deferred (some [])) → Q .normal { a with defers := { target := .collected D, args := #[] } :: a.defers } W) :
  (Code.rangeFunc g #[p1] assign body).wpIn F n P Q a w :=
 wpIn_rangeFunc_J hro h1 hg hFg eg hseq (fun _ => rfl) J hJ hJn h0 (fun i => { tmps := (a.tmps.setIfInBounds p1 (.int .i64 (i : Int))).setIfInBounds q (.int .i64 (i : Int)), defers := [] })
  (fun l i W K hK => by simpa using hassign l i W K hK) hbody hdone
/-- The world at the range. -/
def foldWd (w1 : World) (TA : Option Addr) (n c ct : Nat) (A : Option Addr) : World :=
 ((((w1.alloc (.cells #[.slice TA n ct] 144)).alloc (.cells ((List.replicate n mf0).flatMap mfenc).toArray 243)).alloc (.cells #[.slice (some ⟨w1.heap.size + 1, 0, none⟩) n n] 238)).alloc (.cells #[.slice A n c] 22)).alloc (.cells #[.func (.func 150) #[] #[.pointer (some ⟨w1.heap.size + 1 + 1, 0, none⟩)]] 201)
def foldBx (w w1 : World) (TA : Option Addr) (n c ct : Nat) (A : Option Addr) : List (Nat × List Value) :=
 [(w1.heap.size + 1 + 1 + 1 + 1, [.func (.func 150) #[] #[.pointer (some ⟨w1.heap.size + 1 + 1, 0, none⟩)]]), (w1.heap.size + 1 + 1 + 1, [.slice A n c]), (w1.heap.size + 1 + 1, [.slice (some ⟨w1.heap.size + 1, 0, none⟩) n n]), (w1.heap.size, [.slice TA n ct]),
  (w.heap.size + 1 + 1, [.int .i64 0]), (w.heap.size + 1, [.slice none 0 0]), (w.heap.size, [.slice A n c])]
theorem foldJ0 {e : Ex} {w w1 : World} {TA A : Option Addr} {n c ct : Nat} (h60 : n ≤ 60) (hr : Rd nenc 5 w w.heap.size A (e.flat 0)) (hb : Below w.heap.size w w1) (own1 : Own blenc 1 w1 w.heap.size 4 (.slice TA n ct) (givL e.tr n))
  (hl1 : Loc w1 [(w.heap.size + 1 + 1, [.int .i64 0]), (w.heap.size + 1, [.slice none 0 0]), (w.heap.size, [.slice A n c])]) :
  FoldJ e n w (foldBx w w1 TA n c ct A) A TA (w1.heap.size + 1) (w1.heap.size + 5) (foldWd w1 TA n c ct A) ∧ (foldWd w1 TA n c ct A).heap.size = w1.heap.size + 5 := by
 have hs : (foldWd w1 TA n c ct A).heap.size = w1.heap.size + 5 := by unfold foldWd; simp only [World.size_alloc]
 have hbw : Below w1.heap.size w1 (foldWd w1 TA n c ct A) := by
  unfold foldWd
  exact below_new (below_new (below_new (below_new (below_new (Below.refl _ _) _) _) _) _) _
 have L5 := ((((hl1.new [.slice TA n ct] 144).old (.cells ((List.replicate n mf0).flatMap mfenc).toArray 243)).new [.slice (some ⟨w1.heap.size + 1, 0, none⟩) n n] 238).new [.slice A n c] 22).new [.func (.func 150) #[] #[.pointer (some ⟨w1.heap.size + 1 + 1, 0, none⟩)]] 201
 simp only [World.size_alloc] at L5
 have hf := make_own mf_len mf0 243 n (by omega) w.heap.size (w1.alloc (.cells #[.slice TA n ct] 144)) (by have := hb.size; rw [World.size_alloc]; omega)
 rw [World.size_alloc] at hf
 refine ⟨⟨by rw [hs]; exact Nat.le_refl _, L5, ?_, ?_, ?_, List.replicate n mf0, by simp, ((hf.alloc _).alloc _).alloc _, fun i x hx ht => ?_⟩, hs⟩
 ·exact ((hr.below hb).below (hbw.mono hb.size)).more (Nat.le_succ_of_le hb.size)
 ·exact ((Own.rd bl_len own1).below hbw).more (Nat.le_succ _)
 ·exact below_then hb hbw
 ·rw [List.getElem?_replicate] at hx
  split at hx
  ·obtain rfl := Option.some.inj hx
   cases ht
  ·cases hx
theorem grown_of_bel {X Y : World} {r : Option Nat} (h : Below X.heap.size X Y) : X.grownBy Y r := ⟨h.os, h.tape, h.output, h.size, fun k hk _ => h.block k hk⟩
theorem grown_set (W : World) (g o : Nat) (u : Value) : W.grownBy (W.setCell ⟨g, o, none⟩ u) (some g) := ⟨rfl, rfl, rfl, by simp [World.setCell], fun k _ hne => Below.heap_setCell _ _ _ _ (fun e => hne (by rw [e]))⟩
theorem keptB_set {B : Nat} {X Y : World} (h : KeptB B X Y) {g : Nat} (hg : g < B) (o : Nat) (u : Value) : KeptB B X (Y.setCell ⟨g, o, none⟩ u) :=
 ⟨by have := h.1; simpa [World.setCell] using this, fun k hk hlt => (Below.heap_setCell _ _ _ _ (by simp only; omega)).trans (h.2 k hk hlt)⟩
theorem grown_cell {X Y : World} {g b o : Nat} (h : X.grownBy Y (some g)) (hlt : b < X.heap.size) (hne : b ≠ g) : Y.cell? ⟨b, o, none⟩ = X.cell? ⟨b, o, none⟩ := World.cell?_of_block (a := ⟨b, o, none⟩) (h.block b hlt (by simpa using hne))
theorem foldJ_step {e : Ex} {n : Nat} {w W W' : World} {bx : List (Nat × List Value)} {A TA : Option Addr} {fg B : Nat} (hbx : ∀ q ∈ bx, q.1 < B) (hB : w.heap.size ≤ B) (hfg : fg ≤ B) (h : FoldJ e n w bx A TA fg B W) (hb : Below W.heap.size W W') : FoldJ e n w bx A TA fg B W' :=
 FoldJ.stays hbx hB hfg W W' h (MvB.of_below hb)
theorem below_put' {B : Nat} {X Y : World} (h : Below B X Y) {g : Nat} (hg : B ≤ g) (o : Nat) (u : Value) : Below B X (Y.setCell ⟨g, o, none⟩ u) := h.setCell (p := ⟨g, o, none⟩) hg u
/-- A form put in. -/
theorem foldJ_put {e : Ex} {n : Nat} {w W : World} {bx : List (Nat × List Value)} {A TA : Option Addr} {fg B : Nat} (hbx : ∀ q ∈ bx, q.1 < B ∧ q.1 ≠ fg) (hB : w.heap.size ≤ fg) (h : FoldJ e n w bx A TA fg B W) {i : Nat} (hi : i < n) (x : Mf) (hx : mfOk W w.heap.size (e.tr i) x) :
  FoldJ e n w bx A TA fg B ((W.setCell ⟨fg, i * 2, none⟩ x.v).setCell ⟨fg, i * 2 + 1, none⟩ (.bool x.th)) := by
 obtain ⟨fs, f1, f2, f3⟩ := h.frm
 obtain ⟨g1, g2⟩ := f2.set mf_len f1.symm i (by omega) x
 have e1 : putW W fg (i * 2) 0 (mfenc x) = (W.setCell ⟨fg, i * 2, none⟩ x.v).setCell ⟨fg, i * 2 + 1, none⟩ (.bool x.th) := rfl
 rw [e1] at g1 g2
 have hb : Below fg W ((W.setCell ⟨fg, i * 2, none⟩ x.v).setCell ⟨fg, i * 2 + 1, none⟩ (.bool x.th)) := below_put' (below_put' (Below.refl _ _) (Nat.le_refl fg) _ _) (Nat.le_refl fg) _ _
 refine ⟨Nat.le_trans h.siz g2.size, Loc.grown g2 (fun q hq e => (hbx q hq).2 (Option.some.inj e)) h.loc, h.nds.below hb, h.tru.below hb, h.low.trans (hb.mono hB), fs.set i x, by simp [f1], g1, fun j y hy ht => ?_⟩
 have hown : ∀ {v : Value} {l : List Nd}, Own nenc 5 W w.heap.size 133 v l → Own nenc 5 ((W.setCell ⟨fg, i * 2, none⟩ x.v).setCell ⟨fg, i * 2 + 1, none⟩ (.bool x.th)) w.heap.size 133 v l := fun ho => ho.grown g2 (own_types ho f2 (by decide))
 rw [List.getElem?_set] at hy
 split at hy
 ·rename_i hij
  subst hij
  split at hy
  ·obtain rfl := Option.some.inj hy
   obtain ⟨e', a1, a2⟩ := hx ht
   exact ⟨e', a1, hown a2⟩
  ·cases hy
 ·obtain ⟨e', a1, a2⟩ := f3 j y hy ht
  exact ⟨e', a1, hown a2⟩
theorem foldJ_tops {e : Ex} {n c : Nat} {w w1 W : World} {A TA : Option Addr} {ct B : Nat} (h : FoldJ e n w (foldBx w w1 TA n c ct A) A TA (w1.heap.size + 1) B W) (_hB : w1.heap.size + 1 ≤ B) : TopsJ (e.flat 0) A n c (w1.heap.size + 1 + 1 + 1) (w1.heap.size + 1 + 1 + 1 + 1) (w1.heap.size + 1 + 1) W := by
 have hl := h.loc
 unfold foldBx at hl
 (repeat unfold Loc at hl)
 obtain ⟨fs, f1, f2, f3⟩ := h.frm
 have hs := h.siz
 refine ⟨by simpa using hl.2.2.2.2.1 0, hl.2.2.2.1, h.nds.more (by omega), by simpa using hl.2.1 0, fun i hi => ?_⟩
 obtain ⟨x, hx⟩ : ∃ x, fs[i]? = some x := ⟨_, List.getElem?_eq_getElem (by omega)⟩
 exact fold1_any i n n _ _ x fs f1 hx W (by simpa using hl.2.2.2.2.2.2.2.1 0) (Own.rd mf_len f2)
def FoldP (e : Ex) (w : World) (r : Ending) (w' : World) : Prop := ∃ v e', r = .returned (.tuple #[v, .int .i64 0]) ∧ Fo e e' ∧ Own nenc 5 w' w.heap.size 133 v (e'.flat 0) ∧ Below w.heap.size w w'
set_option maxHeartbeats 16000000 in
set_option maxRecDepth 100000 in
theorem fold_any (e : Ex) (he : e.tgood) (A : Option Addr) (c n : Nat) (w : World) (hn : e.size = n) (hc : n ≤ c) (hr : Rd nenc 5 w w.heap.size A (e.flat 0)) : Calls Tryz.prog 130 #[.slice A n c] w (FoldP e w) := by
 have HKA := Lib.hid (fun W (hb : Below w.heap.size w W) => kall_any e he A c n W hn (hr.grow hb))
 have h60 : n ≤ 60 := by have := he.1.2.1; omega
 have h0n : 0 < n := by have := e.size_pos; omega
 have HR := Lib.hid hr; have HN := Lib.hid hn; have HE := Lib.hid he
 have hl0 := (((Loc.nil w).new [.slice A n c] 22).new [.slice none 0 0] 22).new [.int .i64 0] 35
 rw [World.size_alloc, World.size_alloc] at hl0
 have hb0 : Below w.heap.size w (((w.alloc (.cells #[.slice A n c] 22)).alloc (.cells #[.slice none 0 0] 22)).alloc (.cells #[.int .i64 0] 35)) := below_new (below_new (below_new (Below.refl _ _) _) _) _
 clear hr hn he
 refine (callsIn_wide (n := 9)).1 ?_
 refine callsIn_of_wp_marks Tryz.func130 rfl trivial ?_ rfl
 simp only [Tryz.ntmps130, List.size_toArray, List.length_cons, List.length_nil, Nat.reduceAdd, Nat.reduceSub, Array.replicate_succ, Array.replicate_zero, List.push_toArray, List.append_toArray, List.nil_append, List.cons_append]
 have hmk := fun W => make_run (P := Tryz.prog) mf_info Tryz.underlying238 mf_len mf0 rfl (by decide) (by decide) n (by omega) W
 gi_wp2_with fail
 refine ⟨trivial, ?_⟩
 gi_at_call 148
 refine (callsIn_wide.2 (HKA.out _ hb0)).mono ?_
 rintro r w1 ⟨v1, rfl, own1, hb1⟩
 obtain ⟨TA, ct, rfl, -, -⟩ := own_shape_z own1 (n := n) (givL_len _ _)
 have hl1 := hl0.below hb1
 have hF := hl1
 (repeat unfold Loc at hF)
 have z1 : w.heap.size + 3 ≤ w1.heap.size := by have h9 := hb1.size; rw [World.size_alloc, World.size_alloc, World.size_alloc] at h9; omega
 have z2 : w.heap.size < w1.heap.size + 1 := by omega
 have z3 : w.heap.size < w1.heap.size + 1 + 1 := by omega
 have z4 : w.heap.size < w1.heap.size + 1 + 1 + 1 := by omega
 gi_wp2_with fail
 refine ⟨trivial, ?_⟩
 gi_at_call 149
 refine (callsIn_wide.2 (ftops_any A n c _ _)).mono ?_
 rintro r w2 ⟨rfl, rfl⟩
 gi_wp2_with fail
 have HJ0 := foldJ0 (e := e) h60 HR.out (below_then hb0 hb1) (own1.mono (by simp; omega)) hl1
 obtain ⟨W0, hW0⟩ : ∃ W0, foldWd w1 TA n c ct A = W0 := ⟨_, rfl⟩
 have hWe := hW0
 unfold foldWd at hWe
 rw [hWe]
 rw [hW0] at HJ0
 have hbx : ∀ q ∈ foldBx w w1 TA n c ct A, q.1 < w1.heap.size + 5 ∧ q.1 ≠ w1.heap.size + 1 := by
  intro q hq
  unfold foldBx at hq
  simp only [List.mem_cons, List.not_mem_nil, or_false] at hq
  rcases hq with rfl | rfl | rfl | rfl | rfl | rfl | rfl <;> (simp only; omega)
 have HBX := Lib.hid hbx
 have hsW := HJ0.2
 have HJ0 := Lib.hid HJ0.1
 clear hWe hW0 hbx own1 hl1 hF hb1 hl0 hb0 HKA hmk
 refine wpIn_rangeFunc_nat 27 7 rfl (by omega) (gf := 170) (lb := #[.pointer (some ⟨w1.heap.size + 1 + 1 + 1, 0, none⟩), .pointer (some ⟨w1.heap.size + 1 + 1 + 1 + 1, 0, none⟩)]) rfl trivial (enters_of Tryz.func170 (by kernel_rfl) rfl)
  (ftops_seq (trok_flat HE.out.1.1) A n c (w1.heap.size + 1 + 1 + 1) (w1.heap.size + 1 + 1 + 1 + 1) (w1.heap.size + 1 + 1) (by rw [flat_len]; exact HN.out) h0n h60 (by have := tr_last e; rw [HN.out] at this; rw [this]; exact HN.out) 8 (by omega))
  (FoldJ e n w (foldBx w w1 TA n c ct A) A TA (w1.heap.size + 1) (w1.heap.size + 5)) (by rw [hsW]; exact FoldJ.stays (fun q hq => (HBX.out q hq).1) (by omega) (by omega)) (fun W h => foldJ_tops h (by omega)) HJ0.out ?assign ?body ?done
 case assign =>
  intro l i W K hK
  gi_wp2
  exact hK
 case body =>
  intro l0 i W hi hj hWs
  rw [hsW] at hWs ⊢
  have hl := hj.loc
  unfold foldBx at hl
  (repeat unfold Loc at hl)
  obtain ⟨t1, t2, t3⟩ := tr_sub HE.out.1.1 (by rw [HN.out]; exact hi : i < e.size)
  have htg : (e.tr i).tgood := by
   have h1 := wt_tr e HE.out.2 i (by rw [HN.out]; exact hi)
   have h2 := HE.out.1
   exact ⟨⟨t2, by have := h2.2.1; omega, by have := h2.2.2; omega⟩, h1.1⟩
  have HPT := Lib.hid (part_any2 e HE.out.1 A c n i W HN.out hi hc (hj.nds.more (by omega)))
  have HTG := Lib.hid htg; have HJ := Lib.hid hj; have HI := Lib.hid hi
  clear t1 t2 t3 htg hj hi
  gi_wp2_with fail
  refine ⟨trivial, ?_⟩
  gi_at_call 151
  refine (CallsIn.inRound l0 (callsIn_wide.2 HPT.out)).mono ?_
  rintro r w2 ⟨v2, rfl, own2, hb2⟩
  obtain ⟨n2, hn2⟩ : ∃ n2, (e.tr i).size = n2 := ⟨_, rfl⟩
  obtain ⟨A2, c2, rfl, hc2, -⟩ := own_shape_z own2 (n := n2) (by rw [flat_len]; exact hn2)
  have HV := Lib.hid (fval_any (e.tr i) HTG.out A2 c2 n2 w2 hn2 (Own.rd nenc_len own2))
  clear hn2 hc2 own2 HPT
  gi_wp2_with fail
  refine ⟨trivial, ?_⟩
  gi_at_call 99
  refine (CallsIn.inRound l0 (callsIn_wide.2 HV.out)).mono ?_
  rintro r w3 ⟨rfl, hb3⟩
  have hb23 := below_then hb2 hb3
  have HJ3 := Lib.hid (foldJ_step (fun q hq => (HBX.out q hq).1) (by omega) (by omega) HJ.out hb23)
  have HB23 := Lib.hid hb23
  have hs3 := hb23.size
  obtain ⟨b, hb⟩ : ∃ b, (e.tr i).const = b := ⟨_, rfl⟩
  rw [hb]
  have HCO := Lib.hid hb
  clear hb hb2 hb3 hl HV hb23
  cases b
  ·gi_wp2_with fail
   exact ⟨HJ3.out, KeptB.of_below HB23.out⟩
  ·have hl := HJ3.out.loc
   unfold foldBx at hl
   (repeat unfold Loc at hl)
   have hi := HI.out
   obtain ⟨x, hx⟩ : ∃ x, (e.flat 0)[i]? = some x := ⟨_, List.getElem?_eq_getElem (by rw [flat_len, HN.out]; exact hi)⟩
   obtain ⟨bn, on, rfl, hbn, -, -, -, -, f4⟩ := nd_cells5 HJ3.out.nds hx
   obtain ⟨bt, ot, rfl, hbt, g0⟩ := bl_at HJ3.out.tru (givL_at e.tr hi)
   have hnode := trok_flat HE.out.1.1 i x hx
   have hpos : (e.tr i).pos = x.p := by rcases hnode with ⟨e1, _⟩ | ⟨j, _, e1, _⟩ | ⟨j, m, _, _, e1, _⟩ <;> rw [e1] <;> rfl
   rw [← hpos] at f4
   obtain ⟨fs, y1, y2, -⟩ := HJ3.out.frm
   have HFM := Lib.hid (fun W => form_any ((e.tr i).ev pt0) (e.tr i).pos (e.tr i).gives (ok_pos HTG.out.1.1) (const_in HCO.out HTG.out.1.1 pt0) W)
   have HFF := Lib.hid (fun e' h => fm_fo (e' := e') HTG.out.1.1 HTG.out.2 HCO.out pt0 h)
   obtain ⟨X, hX⟩ : ∃ X, (e.tr i).ev pt0 = X := ⟨_, rfl⟩
   obtain ⟨G, hG⟩ : ∃ G, (e.tr i).gives = G := ⟨_, rfl⟩
   obtain ⟨p, hp⟩ : ∃ p, (e.tr i).pos = p := ⟨_, rfl⟩
   rw [hX, hG, hp] at HFM HFF
   rw [hG] at g0
   rw [hp] at f4
   rw [hX]
   have r1 : ∀ X, w3.grownBy X (some (w1.heap.size + 1)) → X.cell? ⟨w1.heap.size + 1 + 1, 0, none⟩ = some (.slice (some ⟨w1.heap.size + 1, 0, none⟩) n n) := fun X h => (grown_cell h hl.2.2.2.2.2.2.1 (by omega)).trans (by simpa using hl.2.2.2.2.2.2.2.1 0)
   have r2 : ∀ X, w3.grownBy X (some (w1.heap.size + 1)) → X.cell? ⟨w1.heap.size, 0, none⟩ = some (.slice (some ⟨bt, ot, none⟩) n ct) := fun X h => (grown_cell h (by omega) (by omega)).trans (by simpa using hl.2.2.2.2.2.2.2.2.2.2.1 0)
   have r3 : ∀ X, w3.grownBy X (some (w1.heap.size + 1)) → X.cell? ⟨bt, ot + i, none⟩ = some (.bool G) := fun X h => (grown_cell h (by omega) (by omega)).trans g0
   have r4 : ∀ X, w3.grownBy X (some (w1.heap.size + 1)) → X.cell? ⟨w.heap.size, 0, none⟩ = some (.slice (some ⟨bn, on, none⟩) n c) := fun X h => (grown_cell h (by omega) (by omega)).trans (by simpa using hl.2.2.2.2.2.2.2.2.2.2.2.2.2.2.2.2.2.2.2.1 0)
   have r5 : ∀ X, w3.grownBy X (some (w1.heap.size + 1)) → X.cell? ⟨bn, on + i * 5 + 4, none⟩ = some (.int .i64 p) := fun X h => (grown_cell h (by omega) (by omega)).trans f4
   have i1 : (0 : Int) ≤ (i : Int) := by omega
   have i2 : (i : Int) < (n : Int) := by omega
   clear hx hnode hpos hX hG hp f4 g0 hl hi
   gi_wp2_with fail
   refine wpIn_region_held_round (S := fun X => w3.grownBy X (some (w1.heap.size + 1))) (by kernel_rfl) (by kernel_rfl) (fun ⟨_, _, h⟩ => h) (grown_of_bel (Below.drew (Below.refl _ _))) (fun hHeld => ?_)
   refine hT 0 ?_; refine hT 1 ?_; refine hT 2 ?_; refine hT 3 ?_; refine hT 4 ?_; refine hT 5 ?_; refine hT 6 ?_; refine hT 7 ?_; refine hT 8 ?_; refine hT 9 ?_; refine hT 10 ?_; refine hT 11 ?_
   refine hC 12 fun K hK => ?_; go_simp
   go_at_call 152
   refine (HFM.out _).mono ?_
   rintro r w5 ⟨v5, rfl, hop, hb5⟩
   have hb35 : Below w3.heap.size w3 w5 := below_then (Below.drew (Below.refl _ _)) hb5
   have HJ5 := Lib.hid (foldJ_step (fun q hq => (HBX.out q hq).1) (by omega) (by omega) HJ3.out hb35)
   obtain ⟨fs5, y51, y52, -⟩ := HJ5.out.frm
   obtain ⟨y5, hy5⟩ : ∃ y, fs5[i]? = some y := ⟨_, List.getElem?_eq_getElem (by rw [y51]; exact HI.out)⟩
   obtain ⟨b5, o5, e5, -, q1, q2⟩ := mf_cells (Own.rd mf_len y52) hy5
   simp only [Option.some.injEq, Addr.mk.injEq, and_true] at e5
   obtain ⟨rfl, rfl⟩ := e5
   rw [Nat.zero_add] at q1 q2
   have q3 := own_frozen y52 (i * 2)
   have q4 := own_frozen y52 (i * 2 + 1)
   obtain ⟨o, ho⟩ : ∃ o, fmE X G p = o := ⟨_, rfl⟩
   rw [ho] at hop
   have hmo : mfOk w5 w.heap.size (e.tr i) ⟨v5, o.isSome⟩ := fun ht => by
    cases o with
    | none => cases ht
    | some e' => exact ⟨e', HFF.out e' ho, Own.mono hop (by rw [World.size_drew]; omega)⟩
   have hsh : ∃ A5 n5 c5, v5 = .slice A5 n5 c5 := by
    cases o with
    | none => exact ⟨none, 0, 0, hop⟩
    | some e' =>
     obtain ⟨A5, c5, h, _⟩ := own_shape_z (n := (e'.flat 0).length) hop rfl
     exact ⟨_, _, _, h⟩
   obtain ⟨A5, n5, c5, rfl⟩ := hsh
   rw [ho]
   have HMO := Lib.hid hmo; have HB35 := Lib.hid hb35
   clear hop hy5 y51 y52 y1 y2 hmo ho hb5 hb35
   (refine hKp hK (fun hHeld => ?_) (grown_trans hHeld (grown_of_bel (by have h9 := HB35.out; exact ⟨h9.os, h9.tape, h9.output, h9.size, h9.block⟩))); clear hK K)
   refine hT 13 ?_
   refine hC 14 fun K hK => ?_; go_simp
   (refine hKp hK (fun hHeld => ?_) (grown_trans (grown_trans hHeld (grown_set _ _ _ _)) (grown_set _ _ _ _)); clear hK K)
   refine hD ?_
   gi_wp2_with fail
   exact ⟨foldJ_put HBX.out (by omega) HJ5.out HI.out ⟨_, _⟩ HMO.out, keptB_set (keptB_set ((KeptB.of_below HB23.out).trans (KeptB.mono (KeptB.of_below HB35.out) (Nat.le_refl _))) (by omega) _ _) (by omega) _ _⟩
 case done =>
  intro D W hD hj hK
  rw [hsW] at hD
  have hl := hj.loc
  unfold foldBx at hl
  (repeat unfold Loc at hl)
  obtain ⟨fs, y1, y2, y3⟩ := hj.frm
  have hfm : FmsOk e.tr fs W := fun i x hx ht => by
   obtain ⟨e', a1, a2⟩ := y3 i x hx ht
   obtain ⟨A5, c5, h, h5, z5⟩ := own_shape_z (n := (e'.flat 0).length) a2 rfl
   refine ⟨e', ⟨A5, (e'.flat 0).length, c5⟩, a1, h, rfl, h5, z5, ?_⟩
   rw [h] at a2
   exact Own.rd nenc_len a2
  obtain ⟨m, rfl⟩ : ∃ m, n = m + 1 := ⟨n - 1, by omega⟩
  have hlast : e.tr m = e := by have := tr_last e; rwa [HN.out] at this
  have hgd : ∀ i, i < m + 1 → (e.tr i).good ∧ (e.tr i).wt = true := fun i hi => by
   have h1 := wt_tr e HE.out.2 i (by rw [HN.out]; exact hi)
   have h2 := HE.out.1
   have h3 := (tr_sub HE.out.1.1 (by rw [HN.out]; exact hi : i < e.size)).2.1
   exact ⟨⟨h3, by have := h2.2.1; omega, by have := h2.2.2; omega⟩, h1.1⟩
  have HBL := Lib.hid (build_any (trok_flat HE.out.1.1) A (m + 1) c (by rw [flat_len]; exact HN.out) h60 hgd (some ⟨w1.heap.size + 1, 0, none⟩) (m + 1) fs y1 (m + 1) m (Nat.lt_succ_self _) (Nat.lt_succ_self _) W (hj.nds.more (by omega)) (Own.rd mf_len y2) hfm)
  rw [hlast] at HBL
  have ew : IntKind.i64.wrap (((m + 1 : Nat) : Int) - 1) = (m : Int) := (IntWalk.i64_in _ (by omega)).trans (by omega)
  have ew2 : IntKind.i64.wrap (((m : Int) + 1) - 1) = (m : Int) := (IntWalk.i64_in _ (by omega)).trans (by omega)
  have ew3 : IntKind.i64.wrap (m : Int) = (m : Int) := IntWalk.i64_in _ (by omega)
  have mb : m ≤ 60 := by omega
  have hlow := hj.low
  have HL := Lib.hid hj.loc
  clear hfm hgd hlast y1 y2 y3 hj
  gi_wp2_with fail
  refine ⟨trivial, ?_⟩
  gi_at_call 153
  refine (callsIn_wide.2 HBL.out).mono ?_
  rintro r w4 ⟨v4, e4, rfl, hfo4, own4, hb4⟩
  have hl4 := HL.out.below hb4
  unfold foldBx at hl4
  (repeat unfold Loc at hl4)
  obtain ⟨n4, hn4⟩ : ∃ n4, (e4.flat 0).length = n4 := ⟨_, rfl⟩
  obtain ⟨A4, c4, rfl, -, -⟩ := own_shape_z own4 hn4
  gi_wp2_with fail
  have hDl : D < W.heap.size := (Array.getElem?_eq_some_iff.1 hK).1
  have hK4 : ((w4.setCell ⟨w.heap.size + 1, 0, none⟩ (.slice A4 n4 c4)).setCell ⟨w.heap.size + 1 + 1, 0, none⟩ (.int .i64 0)).heap[D]? = some (.deferred (some [])) :=
   (Below.heap_setCell _ _ _ _ (by simp only; omega)).trans ((Below.heap_setCell _ _ _ _ (by simp only; omega)).trans ((hb4.block D hDl).trans hK))
  refine ⟨by simp, .inl ⟨_, _, rfl, run_takeDeferred hK4, ?_⟩⟩
  have c1 : (((w4.setCell ⟨w.heap.size + 1, 0, none⟩ (.slice A4 n4 c4)).setCell ⟨w.heap.size + 1 + 1, 0, none⟩ (.int .i64 0)).putObj D (.deferred none)).cell? ⟨w.heap.size + 1, 0, none⟩ = some (.slice A4 n4 c4) := by
   refine (World.cell?_of_block (World.putObj_heap_other (by simp only; omega))).trans ?_
   refine (World.cell?_setCell_other _ _ _ _ (fun e => by injection e; omega)).trans ?_
   exact World.cell?_setCell_same _ _ _ (by simpa using hl4.2.2.2.2.2.2.2.2.2.2.2.2.2.2.2.2.1 0)
  have c2 : (((w4.setCell ⟨w.heap.size + 1, 0, none⟩ (.slice A4 n4 c4)).setCell ⟨w.heap.size + 1 + 1, 0, none⟩ (.int .i64 0)).putObj D (.deferred none)).cell? ⟨w.heap.size + 1 + 1, 0, none⟩ = some (.int .i64 0) := by
   refine (World.cell?_of_block (World.putObj_heap_other (by simp only; omega))).trans ?_
   exact World.cell?_setCell_same _ _ _ ((World.cell?_setCell_other _ _ _ _ (fun e => by injection e; omega)).trans (by simpa using hl4.2.2.2.2.2.2.2.2.2.2.2.2.2.1 0))
  have hown : Own nenc 5 (((w4.setCell ⟨w.heap.size + 1, 0, none⟩ (.slice A4 n4 c4)).setCell ⟨w.heap.size + 1 + 1, 0, none⟩ (.int .i64 0)).putObj D (.deferred none)) w.heap.size 133 (.slice A4 n4 c4) (e4.flat 0) :=
   (ownsRow_putObj (own_far_set (own_far_set own4 (by omega) _) (by omega) _) _ hK4 rfl : World.ownsRow _ W.heap.size _ _ _ _ _) |> fun h => Own.mono (enc := nenc) (l := e4.flat 0) h (by omega)
  have hbel : Below w.heap.size w (((w4.setCell ⟨w.heap.size + 1, 0, none⟩ (.slice A4 n4 c4)).setCell ⟨w.heap.size + 1 + 1, 0, none⟩ (.int .i64 0)).putObj D (.deferred none)) :=
   (below_put' (below_put' (below_then hlow hb4) (Nat.le_succ _) _ _) (by omega) _ _).trans (belowK_b (w := w) (Nat.le_refl _) _ D _ _ (by omega) hK4 rfl rfl)
  refine ⟨.tuple #[.slice A4 n4 c4, .int .i64 0], by simp [results, Tryz.f130, go_sem, c1, c2], ?_⟩
  exact ⟨_, e4, rfl, hfo4, hown, hbel⟩
end Go.Proofs.YtnljihjhmgpcoaaGreat
namespace Go.Proofs.YtnljihjhmgpcoaaGreat
open Go Go.RowKit Go.ChangeShapes Go.WideShapes Go.ChangeAt Go.Deep
theorem go_info : (Tryz.prog.info? 93).map (fun i => (i.zero, i.size, i.bytes)) = some (some (.agg #[.int .u8 0, .int .i64 0]), 2, 16) := by kernel_rfl
theorem go_el : ElOk Tryz.prog 85 93 2 16 := elOk go_info Tryz.underlying85 rfl (by decide) (by decide)
theorem go_one : OneCells openc := by
 intro x u hu; simp [openc] at hu; rcases hu with rfl | rfl <;> rfl
theorem gc_info : (Tryz.prog.info? 139).map (fun i => (i.zero, i.size, i.bytes)) = some (some (.agg #[.int .i64 0, .int .i64 0, .int .i64 0, .int .i64 0, .int .i64 0]), 5, 40) := by kernel_rfl
theorem gc_el : ElOk Tryz.prog 86 139 5 40 := elOk gc_info Tryz.underlying86 rfl (by decide) (by decide)
theorem gc_one : OneCells chenc := by
 intro x u hu; simp [chenc] at hu; rcases hu with rfl | rfl | rfl | rfl | rfl <;> rfl
/-- The graph so far, in its box. -/
def GrS (gb : Nat) (O : List Opn) (C : List Chn) (W : World) : Prop := ∃ vo vc, Loc W [(gb, [vo, vc])] ∧ Own openc 2 W (gb + 1) 93 vo O ∧ Own chenc 5 W (gb + 1) 139 vc C
theorem opR_succ (kd : Int) (m : Nat) : opR kd (m + 1) = opR kd m ++ [⟨kd, m⟩] := by simp [opR, List.range_succ]
theorem opR_len (kd : Int) (m : Nat) : (opR kd m).length = m := by simp [opR]
def GAddP (gb : Nat) (O : List Opn) (C : List Chn) (kd : Int) (m : Nat) (w : World) (r : Ending) (w' : World) : Prop := r = .returned (.int .i64 (O.length : Nat)) ∧ GrS gb (O ++ opR kd m) C w' ∧ Below gb w w'
set_option maxHeartbeats 8000000 in
theorem gadd_any (gb : Nat) (O : List Opn) (C : List Chn) (kd : Int) (m : Nat) (w : World) (hO : O.length ≤ 100) (hm : m ≤ 100) (h : GrS gb O C w) : Calls Tryz.prog 64 #[.int .u8 kd, .int .i64 m, .pointer (some ⟨gb, 0, none⟩)] w (GAddP gb O C kd m w) := by
 obtain ⟨vo, vc, hl, own, ownc⟩ := h
 obtain ⟨n, hn⟩ : ∃ n, O.length = n := ⟨_, rfl⟩
 obtain ⟨A, c, rfl, -, -⟩ := own_shape_z own hn
 have HN := Lib.hid hn
 rw [hn] at hO
 have hF := hl
 (repeat unfold Loc at hF)
 clear hn
 go_enter Tryz.func64, Tryz.ntmps64
 go_wp2_with fail
 go_loopw [12] (fun i wr => ∃ k : Nat, k ≤ m ∧ i = .int .i64 k ∧ GrS gb (O ++ opR kd k) C wr ∧ Below gb w wr) (fun i _ => m - (intOf i).toNat)
 case atStart => exact ⟨0, Nat.zero_le _, rfl, ⟨_, _, hl, by simpa [opR] using own, ownc⟩, Below.refl _ _⟩
 case round =>
  obtain ⟨k, hk, rfl, hg, hb⟩ := hrel
  clear hF own ownc hl
  by_cases hlt : k < m
  ·obtain ⟨vo', vc', hl, own, ownc⟩ := hg
   have hlen : (O ++ opR kd k).length = n + k := by rw [List.length_append, HN.out, opR_len]
   obtain ⟨A', c', rfl, -, -⟩ := own_shape_z own hlen
   have d1 : decide ((k : Int) < (m : Int)) = true := by simp; omega
   have d1' : decide (k < m) = true := by simp [hlt]
   have e1 : IntKind.i64.wrap ((k : Int) + 1) = (k : Int) + 1 := IntWalk.i64_in _ (by omega)
   have HL := Lib.hid hlt; have HLEN := Lib.hid hlen
   have hz := hl.1
   have hF := hl
   (repeat unfold Loc at hF)
   clear hlt hlen
   go_wp2_with (at_builtin; refine wpList_app go_el rfl (.tmp 16) (.tmp 20) rfl (gb + 1) openc_len go_one (O ++ opR kd k) [⟨kd, k⟩] rfl (own.alloc _) rfl rfl (flat_new _ _ _ _ (by simp) _ rfl) (by rw [HLEN.out]; omega) (by rw [World.size_alloc]; omega) ?_; intro v7 w7 own7 hgr7 hb7 hl7; obtain ⟨A7, c7, rfl, -, -⟩ := own_shape_z own7 (n := n + k + 1) (by rw [List.length_append, HLEN.out]; rfl); have hl8 := (hl.old (.cells #[.int .u8 kd, .int .i64 k] 93)).grown hgr7 (by intro q hq; rw [List.mem_singleton] at hq; subst hq; exact own_ltf own (Nat.lt_succ_self _)); have hG := hl8; (repeat unfold Loc at hG); have ownc8 := (ownc.alloc (.cells #[.int .u8 kd, .int .i64 k] 93)).grown hgr7 (own_types (ownc.alloc _) (own.alloc (.cells #[.int .u8 kd, .int .i64 k] 93)) (by decide)))
   have hb8 : Below gb w w7 := (hb.alloc (by have := hl.1; omega) _).trans (Below.mono hb7 (Nat.le_succ _))
   go_roundw
   case rel => exact ⟨k + 1, HL.out, by go_num, ⟨_, _, hl8.put (by simp) 0 _ (by simp), by rw [opR_succ, ← List.append_assoc]; exact own_far_set own7 (Nat.lt_succ_self _) _, own_far_set ownc8 (Nat.lt_succ_self _) _⟩, below_put' hb8 (Nat.le_refl _) _ _⟩
   case measure => have := HL.out; simp [intOf]; omega
  ·obtain rfl : k = m := by omega
   have d1 : decide ((k : Int) < (k : Int)) = false := by simp
   have d1' : decide (k < k) = false := by simp
   have HG := Lib.hid hg
   clear hg
   go_wp2_with fail
   go_ret
   refine ⟨?_, HG.out, hb⟩
   rw [HN.out]
   rfl
def GJoinP (gb : Nat) (O : List Opn) (C : List Chn) (x : Chn) (w : World) (r : Ending) (w' : World) : Prop := (∃ v, r = .returned v) ∧ GrS gb O (C ++ [x]) w' ∧ Below gb w w'
set_option maxHeartbeats 8000000 in
theorem gjoin_any (gb rb : Nat) (O : List Opn) (C : List Chn) (f o t i : Int) (w : World) (hC : C.length ≤ 200) (hrb : w.cell? ⟨rb, 0, none⟩ = some (.int .i64 1)) (h : GrS gb O C w) : Calls Tryz.prog 65 #[.int .i64 f, .int .i64 o, .int .i64 t, .int .i64 i, .pointer (some ⟨gb, 0, none⟩), .pointer (some ⟨rb, 0, none⟩)] w (GJoinP gb O C ⟨f, o, t, i, 1⟩ w) := by
 obtain ⟨vo, vc, hl, own, ownc⟩ := h
 obtain ⟨n, hn⟩ : ∃ n, C.length = n := ⟨_, rfl⟩
 obtain ⟨A, c, rfl, -, -⟩ := own_shape_z ownc hn
 have HN := Lib.hid hn
 rw [hn] at hC
 have hz := hl.1
 have hF := hl
 (repeat unfold Loc at hF)
 clear hn
 go_enter Tryz.func65, Tryz.ntmps65
 go_wp2_with (at_builtin; refine wpList_app gc_el rfl (.tmp 11) (.tmp 18) rfl (gb + 1) chenc_len gc_one C [⟨f, o, t, i, 1⟩] rfl (ownc.alloc _) rfl rfl (flat_new _ _ _ _ (by simp) _ rfl) (by rw [HN.out]; omega) (by rw [World.size_alloc]; omega) ?_; intro v7 w7 own7 hgr7 hb7 hl7; obtain ⟨A7, c7, rfl, -, -⟩ := own_shape_z own7 (n := n + 1) (by rw [List.length_append, HN.out]; rfl); have hl8 := (hl.old (.cells #[.int .i64 f, .int .i64 o, .int .i64 t, .int .i64 i, .int .i64 1] 139)).grown hgr7 (by intro q hq; rw [List.mem_singleton] at hq; subst hq; exact own_ltf ownc (Nat.lt_succ_self _)); have hG := hl8; (repeat unfold Loc at hG); have own8 := (own.alloc (.cells #[.int .i64 f, .int .i64 o, .int .i64 t, .int .i64 i, .int .i64 1] 139)).grown hgr7 (own_types (own.alloc _) (ownc.alloc (.cells #[.int .i64 f, .int .i64 o, .int .i64 t, .int .i64 i, .int .i64 1] 139)) (by decide)))
 have hb8 : Below gb w w7 := ((Below.refl _ _).alloc (by omega) _).trans (Below.mono hb7 (Nat.le_succ _))
 go_end0
 exact ⟨⟨_, rfl⟩, ⟨_, _, hl8.put (by simp) 1 _ (by simp), own_far_set own8 (Nat.lt_succ_self _) _, own_far_set own7 (Nat.lt_succ_self _) _⟩, below_put' hb8 (Nat.le_refl _) _ _⟩
end Go.Proofs.YtnljihjhmgpcoaaGreat
