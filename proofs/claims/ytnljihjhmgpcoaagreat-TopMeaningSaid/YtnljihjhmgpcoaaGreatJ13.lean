/- Lemmas and contracts for the statement, joined into one text: EnInsert, StorePut, EnDelete, StoreIndex. The conditions of each stand at its head. -/
import Derived.Test.YtnljihjhmgpcoaaGreatJ1
import Derived.Test.YtnljihjhmgpcoaaGreatJ9
import Derived.Lib.Overlaps
import Derived.Lib.AppendZerosOnto
import Derived.Deep.RegionLaw
import Derived.Lib.SliceRun
namespace Go.Proofs.YtnljihjhmgpcoaaGreat
open Go.RowKit Go.Lib
theorem wp_copy_eq {P : Program} (w : World) {o : Oper} {a : Act} {K : Act → World → Prop} {Q : Exit → Act → World → Prop} (d s : Operand) (t t' : TypeId)
  (ho : o.op = .call { callee := .builtin .copy, args := #[d, s], argTypes := #[t, t'] }) (v u : Value) (hd : a.eval d = v) (hs : a.eval s = u) {v' : Value} {w' : World}
  (hr : (Builtin.copy_ #[t, t'] o.type #[v, u]).run P w = .ok v' w') (h : K (a.put o.dst v') w') : o.wp P a w K Q := by
 unfold Oper.wp execOp
 simp only [ho, resolve, invoke, builtin, Sem.run_bind, Sem.run_pure, Result.andThen_ok, List.map_toArray, List.map_cons, List.map_nil, hd, hs, hr]
 exact h
theorem wpList_copy_eq {P : Program} (w : World) {ops : Array Oper} {rest : List Oper} {o : Oper} {a : Act} {Q : Exit → Act → World → Prop} (hgd : o.guard = none) (d s : Operand) (t t' : TypeId)
  (ho : o.op = .call { callee := .builtin .copy, args := #[d, s], argTypes := #[t, t'] }) (v u : Value) (hd : a.eval d = v) (hs : a.eval s = u) {v' : Value} {w' : World}
  (hr : (Builtin.copy_ #[t, t'] o.type #[v, u]).run P w = .ok v' w') (h : wpList P ops Q rest (a.put o.dst v') w') : wpList P ops Q (o :: rest) a w :=
 wpList_plain hgd fun _ hK => wp_copy_eq w d s t t' ho v u hd hs hr (hK _ _ h)
theorem step_copy_eq {P : Program} {ops : Array Oper} {o : Oper} {a : Act} {w : World} {K : Act → World → Prop} {Q : Exit → Act → World → Prop} {E : Prop}
  (hg : o.guard = none) (d x : Operand) (dT sT : TypeId) (hop : o.op = Op.call { callee := Callee.builtin Builtin.copy, args := #[d, x], argTypes := #[dT, sT] })
  (v u : Value) (hd : a.eval d = v) (hx : a.eval x = u) {v' : Value} {w' : World} (hr : (Builtin.copy_ #[dT, sT] o.type #[v, u]).run P w = .ok v' w') (hK : K (a.put o.dst v') w') :
  if Region.wanted o (yielded ops a.tmps) = true then Oper.wp P o a w K Q else E := by
 have hw : Region.wanted o (yielded ops a.tmps) = true := by simp [Region.wanted, hg]
 rw [if_pos hw]
 unfold Oper.wp
 simp [execOp, hop, resolve, invoke, builtin, hd, hx, hr, Result.andThen]
 exact hK
theorem row_drew {w : World} {sz base : Nat} {e : TypeId} {v : Value} {n : Nat} {xs : List Value} (h : w.ownsRow base e sz v n xs) : w.drew.ownsRow base e sz v n xs := h
theorem cell_drew (w : World) (p : Addr) : w.drew.cell? p = w.cell? p := rfl
theorem frozen_drew (w : World) (p : Addr) : w.drew.frozen? p = w.frozen? p := rfl
/-- Nothing is asked of a world. -/
def AnyW (_ : World) : Prop := True
theorem below_of_grown' {w W W' : World} (hb : Below w.heap.size w W) (hg : W.grownBy W' (some w.heap.size)) : Below w.heap.size w W' := hb.grown hg hb.size (fun k hk => by cases hk; exact Nat.le_refl _)
/-- What Insert leaves. -/
def InsP (base : Nat) (ob : Option Nat) (l : List En) (w : World) (r : Ending) (w' : World) : Prop :=
 ∃ v', r = .returned v' ∧ Own enenc 11 w' base 62 v' l ∧ w.grownBy w' ob ∧ (v'.ownBlock = ob ∨ ∀ k, v'.ownBlock = some k → w.heap.size ≤ k)
theorem en_one1 (x : En) : ∀ u ∈ enenc x, u.oneCell' = true := fun u hu => enenc_one [x] u (by simpa using hu)
theorem ov_apart (w : World) (vb b o n : Nat) (la ca lb cb : Nat) (hne : vb ≠ b) (tA tB : TypeId) (kA kB : Nat) (hsa : w.shape? vb = some (tA, kA)) (hsb : w.shape? b = some (tB, kB)) (hkB : kB ≠ 0) (hfa : w.frozen? ⟨vb, n, none⟩ = false) (hfe : w.frozen? ⟨vb, kA, none⟩ = false) :
  (callFunc 128 #[.slice (some ⟨vb, n, none⟩) la ca, .slice (some ⟨b, o, none⟩) lb cb]).run Tryz.prog w = .ok (.value (.bool false)) w := by
 rw [run_callFunc_extern Tryz.func128 (by kernel_rfl) (by kernel_rfl) (by kernel_rfl) (e := Extern.SlicesOverlaps.overlaps #[51, 51] #[4]) (by kernel_rfl),
  Lib.run_overlaps_apart w 51 4 62 Tryz.underlying51 11 (fun w => by kernel_rfl) ⟨vb, n, none⟩ ⟨b, o, none⟩ la ca lb cb hne tA tB kA kB hsa hsb hkB hfa hfe]
 rfl
set_option maxHeartbeats 4000000 in
set_option maxRecDepth 100000 in
theorem insert_any (v : Value) (base i n vb vc : Nat) (l : List En) (x : En) (w : World) (hn : l.length = n) (hb0 : n ≤ 1099511627776) (hi : i ≤ n) (hown : Own enenc 11 w base 62 v l)
  (hvb : w.heap[vb]? = some (.cells (enenc x).toArray 62 (0, 0))) (hne : ∀ g, v.ownBlock = some g → vb ≠ g) (hbase : base ≤ w.heap.size) :
  Calls Tryz.prog 96 #[v, .int .i64 i, .slice (some ⟨vb, 0, none⟩) 1 vc] w (InsP base v.ownBlock (l.take i ++ x :: l.drop i) w) := by
 obtain ⟨i0, hi0, hz0, hz1, hz2⟩ := info_parts en_info
 have hvl : vb < w.heap.size := by
  rcases Nat.lt_or_ge vb w.heap.size with h | h
  ·exact h
  ·rw [Array.getElem?_eq_none h] at hvb; cases hvb
 have hnews0 : ∀ j u, (enenc x)[j]? = some u → w.cell? ⟨vb, j, none⟩ = some u := fun j u hj => by
  simp only [World.cell?, hvb]
  simpa using hj
 have hnews : ∀ W : World, (∀ p, W.cell? p = w.cell? p) → ∀ j u, ([x].flatMap enenc)[j]? = some u → W.cell? ((⟨vb, 0, none⟩ : Addr).add j) = some u := fun W hW j u hj => by
  rw [show (⟨vb, 0, none⟩ : Addr).add j = ⟨vb, j, none⟩ by unfold Addr.add; split <;> simp_all, hW]
  exact hnews0 j u (by simpa using hj)
 obtain ⟨ob, hob⟩ : ∃ ob, ob = v.ownBlock := ⟨_, rfl⟩
 rw [← hob]
 obtain ⟨A, c, rfl, hnc, hz⟩ := own_shape_z hown hn
 have HOB := Lib.hid hob
 clear hob
 by_cases hin : i = n
 ·have hres : l.take i ++ x :: l.drop i = l ++ [x] := by rw [hin, ← hn, List.take_length, List.drop_length]
  rw [hres]
  have d0 : ((i : Int) == (n : Int)) = true := by simp [hin]
  subst hin
  have HN := Lib.hid hn; have HW := Lib.hid hnews; have HNE := Lib.hid hne; have HZ := Lib.hid hz
  clear hn hnews hne hres hvb hnews0 hz
  go_enter Tryz.func96, Tryz.ntmps96
  go_wp2_with (at_builtin; refine wpList_append_fs rfl (.tmp 23) (.tmp 24) 51 rfl base 62 i0 (.agg #[.int .i64 0, .int .i64 0, .int .i64 0, .int .i64 0, .int .i64 0, .int .i64 0, .int .i64 0, .int .i64 0, .int .i64 0, .int .i64 0, .int .i64 0]) 11 88 Tryz.underlying51 hi0 hz0 hz1 hz2 rfl (by decide) enenc enenc_len _ l x rfl hown ⟨vb, 0, none⟩ vc rfl (HW.out _ (fun _ => rfl)) (enenc_one [x]) (by rw [HN.out]; unfold maxLen; omega) (by rw [HN.out]; omega) hbase ?_; intro v' w7 own7 hgr7 hsf; replace hgr7 : w.grownBy w7 ob := (by rw [HOB.out]; exact hgr7); replace hsf : v'.ownBlock = ob ∨ ∀ k, v'.ownBlock = some k → w.heap.size ≤ k := (by rw [HOB.out]; exact hsf); clear HOB)
  all_goals
   go_ret
   exact ⟨_, rfl, own7, hgr7, hsf⟩
 ·have hil : i < n := by omega
  obtain ⟨g, rfl⟩ : ∃ g, A = some ⟨g, 0, none⟩ := by
   obtain ⟨b', off', e', -, -⟩ := (Own.rd enenc_len hown) (by rintro rfl; simp at hn; omega)
   obtain ⟨A', c', hv, -, -, hA⟩ := hown.form
   injection hv with hv1
   subst hv1
   obtain ⟨g, hg, -⟩ := hA _ e'
   exact ⟨g, by rw [e', hg]⟩
  have hvg : vb ≠ g := hne g rfl
  have hob2 : ob = some g := HOB.out
  subst hob2
  clear HOB hne hz
  have d0 : ((i : Int) == (n : Int)) = false := by simp; omega
  have e1 : IntKind.i64.wrap ((i : Int) + 1) = (i : Int) + 1 := IntWalk.i64_in _ (by omega)
  have e2 : IntKind.i64.wrap ((n : Int) + 1) = (n : Int) + 1 := IntWalk.i64_in _ (by omega)
  have t1 : ((i : Int) + 1).toNat = i + 1 := by omega
  have t2 : ((n : Int) + 1).toNat = n + 1 := by omega
  have n1 : ¬ c = i := by omega
  have b1 : (0 : Int) ≤ (i : Int) + 1 := by omega
  have hcm : c ≤ maxLen := by
   obtain ⟨A', c', hv, -, h, -⟩ := hown.form
   injection hv with _ _ hc
   rw [hc]; exact h
  unfold maxLen at hcm
  by_cases hroom : n + 1 ≤ c
  ·have d1 : decide ((c : Int) < (n : Int) + 1) = false := by simp; omega
   have n2 : ¬ c = i + 1 := by omega
   have b2 : (i : Int) + 1 ≤ (n : Int) + 1 := by omega
   have b3 : (i : Int) ≤ (n : Int) + 1 := by omega
   have hrow0 : w.ownsRow base 62 11 (.slice (some ⟨g, 0, none⟩) n c) n (l.flatMap enenc) := by have h := hown; unfold Own at h; rw [hn] at h; exact h
   obtain ⟨js, hjs, hrow⟩ := row_room hrow0 hroom
   have hsa : w.shape? vb = some (62, 11) := by simp [World.shape?, hvb, enenc]
   have hsb : w.shape? g = some (62, c * 11) := by
    rcases hrow0.2 with ⟨h', _⟩ | ⟨g', cap', cur, h', hb, hg, _, _, hcs, _⟩
    ·cases h'
    ·injection h' with h1 _ h3
     injection h1 with h1
     injection h1 with h1
     subst h1 h3
     simp [World.shape?, hg, hcs]
   have hov := fun la ca lb cb o => ov_apart w vb g o 0 la ca lb cb hvg _ _ _ _ hsa hsb (by omega) (by simp [World.frozen?, hvb]) (by simp [World.frozen?, hvb])
   have hsz : (Tryz.prog.info? 62).map (·.size) = some 11 := by rw [hi0]; simp [hz1]
   have hD : ((l.drop i).flatMap enenc).length = (n - i) * 11 := by rw [flat_length enenc_len, List.length_drop, hn]
   have hrl : (l.flatMap enenc ++ js).length = (n + 1) * 11 := hrow.1
   have hfz := fun o => World.ownsRow.frozenAt hrow o
   have hcp1 : ∀ ty dl sl dc sc, Nat.min sl dl = n - i → (Builtin.copy_ #[51, 51] ty #[.slice (some ⟨g, (i + 1) * 11, none⟩) dl dc, .slice (some ⟨g, i * 11, none⟩) sl sc]).run Tryz.prog w.drew = .ok (goInt (n - i : Nat)) (w.drew.setCells g ((i + 1) * 11) ((l.drop i).flatMap enenc)) := fun ty dl sl dc sc hmin => by
    have h := run_copy_k (P := Tryz.prog) w.drew 51 51 ty 62 g ((i + 1) * 11) dl dc ⟨g, i * 11, none⟩ sl sc ((l.drop i).flatMap enenc) 11 Tryz.underlying51 hsz (by rw [hmin, hD])
     (fun j v hj => by
      rw [Addr.add_lit]
      have := World.ownsRow.cells hrow0 (g := g) rfl (i * 11 + j) v (by rw [← (flat_take enenc_len l i (by omega)).2, List.getElem?_drop] at hj; exact hj)
      rw [Addr.add_lit, Nat.zero_add] at this
      exact this)
     (fun j hj => by
      have := row_cell hrow ((i + 1) * 11 + j) (by rw [hrl]; rw [hD] at hj; omega)
      exact this)
     (fun j _ => hfz _) (enenc_one _)
    rw [hmin] at h
    exact h
   obtain ⟨W1, hW1⟩ : ∃ W1, W1 = w.drew.setCells g ((i + 1) * 11) ((l.drop i).flatMap enenc) := ⟨_, rfl⟩
   have hr1 := row_cells (row_drew hrow) ((i + 1) * 11) ((l.drop i).flatMap enenc) (by rw [hrl, hD]; omega)
   obtain ⟨ys, hys⟩ : ∃ ys, ys = (l.flatMap enenc ++ js).take ((i + 1) * 11) ++ (l.drop i).flatMap enenc ++ (l.flatMap enenc ++ js).drop ((i + 1) * 11 + ((l.drop i).flatMap enenc).length) := ⟨_, rfl⟩
   obtain ⟨hyl, hyf⟩ := ins_cells enenc_len l x i (by omega) js hjs ys hys
   rw [← hys, ← hW1] at hr1
   rw [← hW1] at hcp1
   have hfz1 := fun o => World.ownsRow.frozenAt hr1.1 o
   have hv1 : ∀ j u, (enenc x)[j]? = some u → W1.cell? ⟨vb, j, none⟩ = some u := fun j u hj => by
    rw [hW1, World.cell?_setCells_out g _ _ _ _ (fun h _ => absurd h hvg)]
    exact hnews0 j u hj
   have hcp2 : ∀ (W : World), (∀ p, W.cell? p = W1.cell? p) → (∀ p, W.frozen? p = W1.frozen? p) → ∀ ty dl dc, Nat.min 1 dl = 1 → (Builtin.copy_ #[51, 51] ty #[.slice (some ⟨g, i * 11, none⟩) dl dc, .slice (some ⟨vb, 0, none⟩) 1 vc]).run Tryz.prog W = .ok (goInt (1 : Nat)) (W.setCells g (i * 11) (enenc x)) := fun W hWc hWf ty dl dc hmin => by
    have h := run_copy_k (P := Tryz.prog) W 51 51 ty 62 g (i * 11) dl dc ⟨vb, 0, none⟩ 1 vc (enenc x) 11 Tryz.underlying51 hsz (by rw [hmin]; rfl)
     (fun j v hj => by rw [Addr.add_lit, Nat.zero_add, hWc]; exact hv1 j v hj)
     (fun j hj => by rw [hWc]; exact row_cell hr1.1 (i * 11 + j) (by rw [hyl, hn]; rw [enenc_len] at hj; omega))
     (fun j _ => by rw [hWf]; exact hfz1 _) (en_one1 x)
    rw [hmin] at h
    exact h
   have hr2 := row_cells hr1.1 (i * 11) (enenc x) (by rw [hyl, hn, enenc_len]; omega)
   rw [hyf] at hr2
   have hgr := grown_trans hr1.2 hr2.2
   have HG := Lib.hid hgr; have HR := Lib.hid hr2.1; have HLL := Lib.hid (show (l.take i ++ x :: l.drop i).length = n + 1 by simp; omega)
   clear hr1 hr2 hgr hW1 hys hyl hyf hfz hfz1 hrow hrow0 hrl hD hn hnews hnews0 hv1 hsa hsb hjs
   go_enter Tryz.func96, Tryz.ntmps96
   go_wp2_with (simp only [hov])
   refine wp_region_held_drew (S := AnyW) (by kernel_rfl) trivial (fun hHeld => ?_)
   refine hT 0 ?_; refine hT 1 ?_; refine hT 2 ?_; refine hT 3 ?_; refine hT 4 ?_; refine hT 5 ?_; refine hT 6 ?_; refine hT 7 ?_
   refine wpAnyH_ready (rs := [8]) (by kernel_rfl) (by simp) ?_
   refine hCons 8 (by decide) ?_ AllReadyH.nil
   (intro oi hoi; simp only [List.getElem?_toArray, List.getElem?_cons_succ, List.getElem?_cons_zero] at hoi; obtain rfl := Option.some.inj hoi; clear hoi); intro K hK
   refine step_copy_eq rfl (.tmp 73) (.tmp 76) 51 51 rfl (.slice (some ⟨g, (i + 1) * 11, none⟩) (n - i) (c - (i + 1))) (.slice (some ⟨g, i * 11, none⟩) (n + 1 - i) (c - i)) rfl rfl (hcp1 _ _ _ _ _ (by simp only [Nat.min_def]; split <;> omega)) ?_
   refine hK.out _ _ trivial (fun _ => ?_)
   clear hK K
   (try simp only [Act.put, List.setIfInBounds_toArray, List.set_cons_zero, List.set_cons_succ])
   refine hD ?_
   go_wp2_with (refine wpList_copy_eq _ rfl (.tmp 80) (.tmp 81) 51 51 rfl (.slice (some ⟨g, i * 11, none⟩) (n + 1 - i) (c - i)) (.slice (some ⟨vb, 0, none⟩) 1 vc) rfl rfl (hcp2 _ (fun _ => rfl) (fun _ => rfl) _ (n + 1 - i) (c - i) (by simp only [Nat.min_def]; split <;> omega)) ?_)
   go_ret
   refine ⟨.slice (some ⟨g, 0, none⟩) (n + 1) c, rfl, ?_, grown_trans (grown_of_below (below_drew (Below.refl _ _)) _) HG.out, .inl rfl⟩
   unfold Own
   rw [HLL.out]
   exact HR.out
  ·obtain rfl : c = n := by omega
   have d1 : decide ((c : Int) < (c : Int) + 1) = true := by simp; omega
   have hn3 : (c : Int) + 1 - (i : Int) = ((c + 1 - i : Nat) : Int) := by omega
   have hik : i + (c + 1 - i) = c + 1 := by omega
   have hsz : (Tryz.prog.info? 62).map (·.size) = some 11 := by rw [hi0]; simp [hz1]
   have hrow0 : w.ownsRow base 62 11 (.slice (some ⟨g, 0, none⟩) c c) c (l.flatMap enenc) := by have h := hown; unfold Own at h; rw [hn] at h; exact h
   have hgl : g < w.heap.size := (World.ownsRow.lt hrow0 g rfl).2
   have hT : ((l.take i).flatMap enenc).length = i * 11 := by rw [flat_length enenc_len, List.length_take, Nat.min_eq_left (by omega)]
   have hD : ((l.drop i).flatMap enenc).length = (c - i) * 11 := by rw [flat_length enenc_len, List.length_drop, hn]
   have hold : (Builtin.firstCells i0.size i (.slice (some ⟨g, 0, none⟩) i c)).run Tryz.prog w.drew = .ok ((l.take i).flatMap enenc).toArray w.drew := by
    rw [hz1]
    exact run_firstCells_some w.drew 11 i ⟨g, 0, none⟩ i c ((l.take i).flatMap enenc) hT (fun j v hj => by
     have := World.ownsRow.cells hrow0 (g := g) rfl j v (by
      rw [← (flat_take enenc_len l i (by omega)).1, List.getElem?_take] at hj
      split at hj
      ·exact hj
      ·cases hj)
     exact this)
   obtain ⟨z, hz⟩ : ∃ z : Value, z = .agg #[.int .i64 0, .int .i64 0, .int .i64 0, .int .i64 0, .int .i64 0, .int .i64 0, .int .i64 0, .int .i64 0, .int .i64 0, .int .i64 0, .int .i64 0] := ⟨_, rfl⟩
   have hzs : z.cells.size = 11 := by rw [hz]; rfl
   rw [← hz] at hz0
   obtain ⟨G, hG⟩ : ∃ G, G = grownCap w (c + 1) c 62 := ⟨_, rfl⟩
   have hGn : c + 1 ≤ G := by rw [hG]; exact grownCap_ge w _ _ _
   have hG63 : G ≤ maxLen := by rw [hG]; exact grownCap_le_maxLen w (c + 1) c 62 (by unfold maxLen; omega)
   obtain ⟨ROW, hROW⟩ : ∃ ROW : Array Value, ROW = ((l.take i).flatMap enenc).toArray ++ Builtin.zeroCells z.cells (c + 1 - i) ++ Builtin.zeroCells z.cells (G - (c + 1)) := ⟨_, rfl⟩
   have hrz : ∀ ty, (Builtin.append_ #[51, 3] ty #[.slice (some ⟨g, 0, none⟩) i c, .int .i64 ((c + 1 - i : Nat) : Int)]).run Tryz.prog w = .ok (.slice (some ⟨w.heap.size, 0, none⟩) (c + 1) G) (w.drew.alloc (.cells ROW 62)) := fun ty => by
    have h := Lib.run_append_grow_zeros w 51 3 ty 62 i0 z .i64 .i64 Tryz.underlying51 Tryz.underlying3 hi0 hz0 (some ⟨g, 0, none⟩) i c _ hold (c + 1 - i) (by omega) (by omega) (by omega) (by omega) (by rw [hz2]; omega) (by rw [hz2, hik]; exact growslice_fits (by omega) (by omega))
    rw [hik] at h
    rw [hROW, hG]
    exact h
   have hRs : ROW.size = G * 11 := by
    rw [hROW]
    simp only [Array.size_append, List.size_toArray, hT, Builtin.zeroCells, Array.size_map, Array.size_range, hzs]
    omega
   obtain ⟨zs, hzl, hRt⟩ : ∃ zs : List Value, zs.length = (c + 1 - i) * 11 ∧ ROW.toList.take ((c + 1) * 11) = (l.take i).flatMap enenc ++ zs := by
    refine ⟨(Builtin.zeroCells z.cells (c + 1 - i)).toList, by simp [Builtin.zeroCells, hzs], ?_⟩
    rw [hROW]
    simp only [Array.toList_append]
    rw [List.take_left' (by simp only [List.length_append, hT, Array.length_toList, Builtin.zeroCells, Array.size_map, Array.size_range, hzs]; omega)]
   obtain ⟨W1, hW1⟩ : ∃ W1, W1 = w.drew.alloc (.cells ROW 62) := ⟨_, rfl⟩
   have hr0 := row_new (sz := 11) (base := base) (e := 62) w.drew ROW (c + 1) G hbase hGn hG63 hRs
   rw [hRt, ← hW1] at hr0
   change W1.ownsRow base 62 11 (.slice (some ⟨w.heap.size, 0, none⟩) (c + 1) G) (c + 1) _ at hr0
   have hx0l : ((l.take i).flatMap enenc ++ zs).length = (c + 1) * 11 := hr0.1
   have hr1 := row_cells hr0 (i * 11) (enenc x) (by rw [hx0l, enenc_len]; omega)
   obtain ⟨ys, hys⟩ : ∃ ys, ys = ((l.take i).flatMap enenc ++ zs).take (i * 11) ++ enenc x ++ ((l.take i).flatMap enenc ++ zs).drop (i * 11 + (enenc x).length) := ⟨_, rfl⟩
   rw [← hys] at hr1
   have hyl : ys.length = (c + 1) * 11 := hr1.1.1
   have hyf : ys.take ((i + 1) * 11) ++ (l.drop i).flatMap enenc ++ ys.drop ((i + 1) * 11 + ((l.drop i).flatMap enenc).length) = (l.take i ++ x :: l.drop i).flatMap enenc := by
    have hz3 : ys.drop ((i + 1) * 11 + ((l.drop i).flatMap enenc).length) = [] := List.drop_eq_nil_of_le (by rw [hyl, hD]; omega)
    rw [hz3, List.append_nil, hys, List.take_left' hT, List.take_left' (by simp only [List.length_append, hT, enenc_len]; omega)]
    simp
   have hf0 := fun o => World.ownsRow.frozenAt hr0 o
   have hf1 := fun o => World.ownsRow.frozenAt hr1.1 o
   have hbel : Below w.heap.size w W1 := by rw [hW1]; exact below_new (below_drew (Below.refl _ _)) _
   have hcpA : ∀ (W : World), (∀ p, W.cell? p = W1.cell? p) → (∀ p, W.frozen? p = W1.frozen? p) → ∀ ty dl dc, Nat.min 1 dl = 1 → (Builtin.copy_ #[51, 51] ty #[.slice (some ⟨w.heap.size, i * 11, none⟩) dl dc, .slice (some ⟨vb, 0, none⟩) 1 vc]).run Tryz.prog W = .ok (goInt (1 : Nat)) (W.setCells w.heap.size (i * 11) (enenc x)) := fun W hWc hWf ty dl dc hmin => by
    have h := run_copy_k (P := Tryz.prog) W 51 51 ty 62 w.heap.size (i * 11) dl dc ⟨vb, 0, none⟩ 1 vc (enenc x) 11 Tryz.underlying51 hsz (by rw [hmin]; rfl)
     (fun j v hj => by rw [Addr.add_lit, Nat.zero_add, hWc, hbel.cell (p := ⟨vb, j, none⟩) hvl]; exact hnews0 j v hj)
     (fun j hj => by rw [hWc]; exact row_cell hr0 (i * 11 + j) (by rw [hx0l]; rw [enenc_len] at hj; omega))
     (fun j _ => by rw [hWf]; exact hf0 _) (en_one1 x)
    rw [hmin] at h
    exact h
   have hgN : g ≠ w.heap.size := by omega
   have hcpB : ∀ (W : World), (∀ p, W.cell? p = (W1.setCells w.heap.size (i * 11) (enenc x)).cell? p) → (∀ p, W.frozen? p = (W1.setCells w.heap.size (i * 11) (enenc x)).frozen? p) → ∀ ty dl sl dc sc, Nat.min sl dl = c - i → (Builtin.copy_ #[51, 51] ty #[.slice (some ⟨w.heap.size, (i + 1) * 11, none⟩) dl dc, .slice (some ⟨g, i * 11, none⟩) sl sc]).run Tryz.prog W = .ok (goInt (c - i : Nat)) (W.setCells w.heap.size ((i + 1) * 11) ((l.drop i).flatMap enenc)) := fun W hWc hWf ty dl sl dc sc hmin => by
    have h := run_copy_k (P := Tryz.prog) W 51 51 ty 62 w.heap.size ((i + 1) * 11) dl dc ⟨g, i * 11, none⟩ sl sc ((l.drop i).flatMap enenc) 11 Tryz.underlying51 hsz (by rw [hmin, hD])
     (fun j v hj => by
      rw [Addr.add_lit, hWc, World.cell?_setCells_out _ _ _ _ _ (fun h _ => absurd h hgN), hbel.cell (p := ⟨g, i * 11 + j, none⟩) hgl]
      have := World.ownsRow.cells hrow0 (g := g) rfl (i * 11 + j) v (by rw [← (flat_take enenc_len l i (by omega)).2, List.getElem?_drop] at hj; exact hj)
      rw [Addr.add_lit, Nat.zero_add] at this
      exact this)
     (fun j hj => by rw [hWc]; exact row_cell hr1.1 ((i + 1) * 11 + j) (by rw [hyl]; rw [hD] at hj; omega))
     (fun j _ => by rw [hWf]; exact hf1 _) (enenc_one _)
    rw [hmin] at h
    exact h
   have hcpC := fun ty => hcpB ((W1.setCells w.heap.size (i * 11) (enenc x)).drew) (fun p => cell_drew _ p) (fun p => frozen_drew _ p) ty (c - i) (c - i) (G - (i + 1)) (c - i) (by simp only [Nat.min_def]; split <;> omega)
   clear hcpB
   have hr2 := row_cells (row_drew hr1.1) ((i + 1) * 11) ((l.drop i).flatMap enenc) (by rw [hyl, hD]; omega)
   rw [hyf] at hr2
   have HR := Lib.hid hr2.1; have HLL := Lib.hid (show (l.take i ++ x :: l.drop i).length = c + 1 by simp; omega)
   have hb1 : Below w.heap.size w (W1.setCells w.heap.size (i * 11) (enenc x)) := below_of_grown' hbel hr1.2
   have hb2 := below_of_grown' (below_drew hb1) hr2.2
   have HB := Lib.hid hb2
   have n2 : ¬ G = i := by omega
   have n3 : ¬ G = i + 1 := by omega
   have b2 : (i : Int) + 1 ≤ (c : Int) + 1 := by omega
   have b3 : (i : Int) ≤ (c : Int) + 1 := by omega
   clear hr0 hr1 hr2 hys hyl hyf hf0 hf1 hrow0 hD hT hn hnews hnews0 hRt hzl hRs hROW hG hz hzs hold hik hb1 hb2 hbel hx0l
   subst hW1
   go_enter Tryz.func96, Tryz.ntmps96
   go_wp2_with (first
    | (at_builtin; refine Lib.wpList_append_run _ rfl (.tmp 34) (.tmp 39) _ _ rfl _ _ rfl rfl _ _ (hrz _) ?_)
    | (refine wpList_copy_eq _ rfl (.tmp 43) (.tmp 44) 51 51 rfl (.slice (some ⟨w.heap.size, i * 11, none⟩) (c + 1 - i) (G - i)) (.slice (some ⟨vb, 0, none⟩) 1 vc) rfl rfl (hcpA _ (fun _ => rfl) (fun _ => rfl) _ (c + 1 - i) (G - i) (by simp only [Nat.min_def]; split <;> omega)) ?_))
   refine wp_region_held_drew (S := AnyW) (by kernel_rfl) trivial (fun hHeld => ?_)
   refine hT 0 ?_; refine hT 1 ?_; refine hT 2 ?_; refine hT 3 ?_; refine hT 4 ?_; refine hT 5 ?_; refine hT 6 ?_; refine hT 7 ?_
   refine wpAnyH_ready (rs := [8]) (by kernel_rfl) (by simp) ?_
   refine hCons 8 (by decide) ?_ AllReadyH.nil
   (intro oi hoi; simp only [List.getElem?_toArray, List.getElem?_cons_succ, List.getElem?_cons_zero] at hoi; obtain rfl := Option.some.inj hoi; clear hoi); intro K hK
   refine step_copy_eq rfl (.tmp 50) (.tmp 53) 51 51 rfl (.slice (some ⟨w.heap.size, (i + 1) * 11, none⟩) (c - i) (G - (i + 1))) (.slice (some ⟨g, i * 11, none⟩) (c - i) (c - i)) rfl rfl (hcpC _) ?_
   refine hK.out _ _ trivial (fun _ => ?_)
   clear hK K
   (try simp only [Act.put, List.setIfInBounds_toArray, List.set_cons_zero, List.set_cons_succ])
   refine hD ?_
   go_wp2
   go_ret
   refine ⟨.slice (some ⟨w.heap.size, 0, none⟩) (c + 1) G, rfl, ?_, ?_, .inr (fun k hk => by cases hk; exact Nat.le_refl _)⟩
   ·unfold Own
    rw [HLL.out]
    exact HR.out
   ·exact grown_of_below HB.out _
end Go.Proofs.YtnljihjhmgpcoaaGreat
namespace Go.Proofs.YtnljihjhmgpcoaaGreat
open Go.RowKit
theorem keq_iff {a b : En} : keq a b = true ↔ a.k = b.k ∧ a.s = b.s ∧ a.e = b.e := by simp [keq]
/-- What is found by the search: the place, and the entry there if there is one of its key and window. -/
theorem place_facts {l : List En} (h : SS l) (x : En) : insE l x = l.take (plE l x) ++ x :: l.drop (plE l x) ∧
  (fndE l x = true → ∃ y, l[plE l x]? = some y ∧ y.k = x.k ∧ y.s = x.s ∧ y.e = x.e) ∧ (fndE l x = false → ∀ y ∈ l, ¬ (y.k = x.k ∧ y.s = x.s ∧ y.e = x.e)) := by
 have hle := plE_le l x
 have ht : l.takeWhile (fun y => enlt y x) = l.take (plE l x) := by
  unfold plE
  exact (List.prefix_iff_eq_take.1 (List.takeWhile_prefix _))
 have hd : l.dropWhile (fun y => enlt y x) = l.drop (plE l x) := by
  have := List.takeWhile_append_dropWhile (p := fun y => enlt y x) (l := l)
  rw [ht] at this
  exact List.append_cancel_left (this.trans (List.take_append_drop (plE l x) l).symm)
 have hb : ∀ m y, m < plE l x → l[m]? = some y → enlt y x = true := fun m y hm hy => by
  have hy' : (l.takeWhile fun y => enlt y x)[m]? = some y := by rw [ht, List.getElem?_take, if_pos hm]; exact hy
  exact List.all_takeWhile (p := fun y => enlt y x) (l := l) |> List.all_eq_true.1 |> (fun h => h y (List.mem_of_getElem? hy'))
 refine ⟨by unfold insE; rw [ht, hd], fun hf => ?_, fun hf y hy hk => ?_⟩
 ·unfold fndE at hf
  cases hy : l[plE l x]? with
  | none => rw [hy] at hf; cases hf
  | some y => rw [hy] at hf; exact ⟨y, rfl, keq_iff.1 hf⟩
 ·obtain ⟨m, hm⟩ := List.mem_iff_getElem?.1 hy
  have hn : enlt y x = false := by rw [(enlt_key (c := x) hk.1 hk.2.1 hk.2.2).1]; exact enlt_irr x
  rcases Nat.lt_trichotomy m (plE l x) with h1 | h1 | h1
  ·rw [hb m y h1 hm] at hn; cases hn
  ·subst h1
   unfold fndE at hf
   rw [hm] at hf
   have := keq_iff.2 hk
   simp only at hf
   rw [this] at hf
   cases hf
  ·-- an entry ahead of it that does not come before x
   have hlt : plE l x < l.length := Nat.lt_trans h1 (List.getElem?_eq_some_iff.1 hm).1
   have hz := List.getElem?_eq_getElem hlt
   have h2 := ss_get h h1 hz hm
   rw [(enlt_key (c := l[plE l x]) hk.1 hk.2.1 hk.2.2).2] at h2
   have h3 : (l.dropWhile fun y => enlt y x).head? = some l[plE l x] := by rw [hd, List.head?_drop]; exact hz
   have := List.head?_dropWhile_not (fun y => enlt y x) l
   rw [h3] at this
   simp only at this
   rw [h2] at this
   simp at this
theorem absorb_none {h : En → En → Bool} {l : List En} {x : En} (hn : ∀ y ∈ l, h x y = false) : ∀ n, absorb h n l x = (l, x)
 | 0 => rfl
 | n + 1 => by
  have : l.findIdx? (h x) = none := List.findIdx?_eq_none_iff.2 (fun y hy => by simp [hn y hy])
  unfold absorb
  rw [this]
theorem hit_one_iff {x y : En} : hitE false x y = true ↔ y.k = x.k ∧ y.s = x.s ∧ y.e = x.e := by rw [hitE_one]; simp
theorem absorb_found {l : List En} (h : SS l) {x y : En} {i : Nat} (hy : l[i]? = some y) (h1 : y.k = x.k) (h2 : y.s = x.s) (h3 : y.e = x.e) : absorb (hitE false) l.length l x = (l.eraseIdx i, enJ x y) := by
 obtain ⟨hi, hyi⟩ := List.getElem?_eq_some_iff.1 hy
 have hoth : ∀ j z, l[j]? = some z → j ≠ i → hitE false x z = false := fun j z hz hj => by
  cases hc : hitE false x z with
  | false => rfl
  | true =>
   obtain ⟨e1, e2, e3⟩ := hit_one_iff.1 hc
   rcases Nat.lt_or_gt_of_ne hj with h' | h'
   ·have := ss_get h h' hz hy
    rw [(enlt_key (c := y) (e1.trans h1.symm) (e2.trans h2.symm) (e3.trans h3.symm)).1, enlt_irr] at this
    cases this
   ·have := ss_get h h' hy hz
    rw [(enlt_key (c := y) (e1.trans h1.symm) (e2.trans h2.symm) (e3.trans h3.symm)).2, enlt_irr] at this
    cases this
 have hf : l.findIdx? (hitE false x) = some i := List.findIdx?_eq_some_iff_getElem.2 ⟨hi, by rw [hyi]; exact hit_one_iff.2 ⟨h1, h2, h3⟩, fun j hj => by
  have := hoth j l[j] (List.getElem?_eq_getElem (by omega)) (by omega)
  simp [this]⟩
 obtain ⟨n, hn⟩ : ∃ n, l.length = n + 1 := ⟨l.length - 1, by omega⟩
 rw [hn]
 unfold absorb
 rw [hf]
 simp only [getD_of hy]
 refine absorb_none (fun z hz => ?_) n
 obtain ⟨j, hj⟩ := List.mem_iff_getElem?.1 hz
 rw [List.getElem?_eraseIdx] at hj
 have e1 : hitE false (enJ x y) = hitE false x := hitE_congr rfl (show min x.s y.s = x.s by omega) (show max x.e y.e = x.e by omega)
 rw [e1]
 split at hj
 ·exact hoth j z hj (by omega)
 ·exact hoth (j + 1) z hj (by omega)
theorem mrg_enJ {x y : En} (hx : enw x) (hy : enw y) (h1 : y.k = x.k) (h2 : y.s = x.s) (h3 : y.e = x.e) : mrg y x.a x.b = enJ x y := by
 refine en_ext h1 ?_ ?_ ?_ ?_
 ·show y.s = min x.s y.s; omega
 ·show y.e = max x.e y.e; omega
 ·show aboth y.a x.a = aboth x.a y.a; exact both_comm hy.2.1 hx.2.1
 ·show aboth y.b x.b = aboth x.b y.b; exact both_comm hy.2.2 hx.2.2
/-- What putting in gives, by what the search finds. -/
theorem putE_none {l : List En} (h : SS l) {x : En} (hf : fndE l x = false) : putE false l x = (l.take (plE l x) ++ x :: l.drop (plE l x), fitE x) := by
 obtain ⟨h1, _, h3⟩ := place_facts h x
 unfold putE
 rw [absorb_none (fun y hy => by
  cases hc : hitE false x y with
  | false => rfl
  | true => exact absurd (hit_one_iff.1 hc) (h3 hf y hy)), ← h1]
theorem putE_some {l : List En} (h : SS l) {x y : En} {i : Nat} (hy : l[i]? = some y) (h1 : y.k = x.k) (h2 : y.s = x.s) (h3 : y.e = x.e) (hx : enw x) (hw : enw y) : putE false l x = (l.set i (mrg y x.a x.b), fitE (mrg y x.a x.b)) := by
 unfold putE
 rw [absorb_found h hy h1 h2 h3, mrg_enJ hx hw h1 h2 h3]
 simp only
 rw [insE_set h hy (y := enJ x y) h1 (show y.s = min x.s y.s by omega) (show y.e = max x.e y.e by omega)]
def HasL (L : List (Nat × List Value)) (X : World) : Prop := Loc X L
/-- What put leaves. -/
def PutP (base : Nat) (ob : Option Nat) (l : List En) (x : En) (w : World) (r : Ending) (w' : World) : Prop :=
 ∃ (v' : Value) (err : Int) (l' : List En), r = .returned (.tuple #[v', .int .i64 err]) ∧ Own enenc 11 w' base 62 v' l' ∧ w.grownBy w' ob ∧ (v'.ownBlock = ob ∨ ∀ k, v'.ownBlock = some k → w.heap.size ≤ k) ∧
  (err = 0 ∧ l' = (putE false l x).1 ∧ (putE false l x).2 = true ∨ err = 4 ∧ (putE false l x).2 = false)
set_option maxHeartbeats 4000000 in
set_option maxRecDepth 100000 in
theorem put_any (v : Value) (base n : Nat) (l : List En) (x : En) (w : World) (hn : l.length = n) (hb0 : n ≤ 1099511627775) (hown : Own enenc 11 w base 62 v l) (hbase : base ≤ w.heap.size) (hs : SS l)
  (hok : ∀ y ∈ l, y.s < y.e ∧ y.a.ok ∧ y.b.ok) (hx : x.s < x.e ∧ x.a.ok ∧ x.b.ok) (hfx : fitE x = true) :
  Calls Tryz.prog 57 #[v, .agg #[.int .i64 x.k, .int .i64 x.s, .int .i64 x.e, .int .i64 x.c1, .int .i64 x.s1, .int .i64 x.m1, .int .i64 x.x1, .int .i64 x.c2, .int .i64 x.s2, .int .i64 x.m2, .int .i64 x.x2]] w (PutP base v.ownBlock l x w) := by
 obtain ⟨ob, hob⟩ : ∃ ob, ob = v.ownBlock := ⟨_, rfl⟩
 rw [← hob]
 obtain ⟨A, c, rfl, hnc, hz⟩ := own_shape_z hown hn
 have hlt := fun k hk => World.ownsRow.lt hown k hk
 have hsearch := fun W (h : Rd enenc 11 W W.heap.size A l) => search_any A c n l x W hn (by omega) hs h
 obtain ⟨p, hp⟩ : ∃ p, p = plE l x := ⟨_, rfl⟩
 obtain ⟨f, hf⟩ : ∃ f, f = fndE l x := ⟨_, rfl⟩
 have hpn : p ≤ n := by rw [hp, ← hn]; exact plE_le l x
 have hrd := Own.rd enenc_len hown
 have HN := Lib.hid hn; have HP := Lib.hid hp; have HF := Lib.hid hf; have HOB := Lib.hid hob; have HLT := Lib.hid hlt; have HZ := Lib.hid hz; have HS := Lib.hid hs; have HOK := Lib.hid hok; have HFX := Lib.hid hfx; have HX := Lib.hid hx
 unfold SearchP at hsearch
 rw [← hp, ← hf] at hsearch
 have HSE := Lib.hid hsearch
 clear hn hp hf hob hlt hz hs hok hfx hx hsearch
 cases f with
 | false =>
  go_enter Tryz.func57, Tryz.ntmps57
  go_wp2_with fail
  go_at_call 95
  refine (HSE.out _ (rd_grown hrd blr)).mono ?_
  rintro r w1 ⟨rfl, hb1⟩
  have hl1 := ((Loc.nil w).new [.int .i64 x.k, .int .i64 x.s, .int .i64 x.e, .int .i64 x.c1, .int .i64 x.s1, .int .i64 x.m1, .int .i64 x.x1, .int .i64 x.c2, .int .i64 x.s2, .int .i64 x.m2, .int .i64 x.x2] 62).below hb1
  have hl2 := hl1
  (repeat unfold Loc at hl2)
  go_wp2_with fail
  go_at_call 96
  have hbX : Below w.heap.size w (w1.alloc (.cells (enenc x).toArray 62)) := blr
  refine (insert_any (.slice A n c) base p n w1.heap.size 1 l x _ HN.out (by omega) hpn (((hown.alloc _).below hb1).alloc _) (heap_alloc_new w1 _) (fun g hg => by have := (HLT.out g hg).2; have := lt_of_below hb1; omega) (Nat.le_trans hbase hbX.size)).mono ?_
  rintro r w2 ⟨v2, rfl, own2, hg2, hf2⟩
  rw [← HOB.out] at hg2 hf2
  have HG := Lib.hid (grown_trans (grown_of_below hbX ob) hg2)
  have HFR : Hid (v2.ownBlock = ob ∨ ∀ k, v2.ownBlock = some k → w.heap.size ≤ k) := Lib.hid (hf2.imp_right fun h k hk => Nat.le_trans hbX.size (h k hk))
  have hpe := putE_none HS.out (x := x) HF.out.symm
  rw [← HP.out] at hpe
  have HPE := Lib.hid hpe
  clear hg2 hf2 hpe hl1 hl2
  go_wp2
  go_ret2
  exact ⟨v2, 0, _, rfl, own2, HG.out, HFR.out, .inl ⟨rfl, by rw [HPE.out], by rw [HPE.out]; exact HFX.out⟩⟩
 | true =>
  obtain ⟨y, hy, k1, k2, k3⟩ := (place_facts HS.out x).2.1 HF.out.symm
  rw [← HP.out] at hy
  obtain ⟨g, rfl⟩ : ∃ g, A = some ⟨g, 0, none⟩ := by
   obtain ⟨b', off', e', -, -⟩ := hrd (by rintro rfl; simp at hy)
   obtain ⟨A', c', hv, -, -, hA⟩ := hown.form
   injection hv with hv1
   subst hv1
   obtain ⟨g, hg, -⟩ := hA _ e'
   exact ⟨g, by rw [e', hg]⟩
  have hob2 : ob = some g := HOB.out
  subst hob2
  have hpl : p < n := by have := (List.getElem?_eq_some_iff.1 hy).1; rw [HN.out] at this; exact this
  obtain ⟨hyw, hya, hyb⟩ := HOK.out y (List.mem_of_getElem? hy)
  obtain ⟨hxw, hxa, hxb⟩ := HX.out
  have hpe := putE_some HS.out hy k1 k2 k3 ⟨hxw, wk_ok hxa, wk_ok hxb⟩ ⟨hyw, wk_ok hya, wk_ok hyb⟩
  have hgw := (HLT.out g rfl).2
  have HPE := Lib.hid hpe; have HY := Lib.hid hy; have HXA := Lib.hid hxa; have HXB := Lib.hid hxb; have HYA := Lib.hid hya; have HYB := Lib.hid hyb
  clear hpe hy k1 k2 k3 hyw hya hyb hxw hxa hxb
  have q1 : (0 : Int) ≤ (p : Int) := by omega
  have q2 : (p : Int) < (n : Int) := by omega
  go_enter Tryz.func57, Tryz.ntmps57
  go_wp2_with fail
  go_at_call 95
  refine (HSE.out _ (rd_grown hrd blr)).mono ?_
  rintro r w1 ⟨rfl, hb1⟩
  have hl1 := ((Loc.nil w).new [.int .i64 x.k, .int .i64 x.s, .int .i64 x.e, .int .i64 x.c1, .int .i64 x.s1, .int .i64 x.m1, .int .i64 x.x1, .int .i64 x.c2, .int .i64 x.s2, .int .i64 x.m2, .int .i64 x.x2] 62).below hb1
  obtain ⟨lE, hE, hq, hR⟩ : ∃ lE : List (Nat × List Value), HasL lE w1.drew ∧ (∀ q ∈ lE, q.1 = w.heap.size) ∧ ∀ X, HasL lE X → Loc X [(w.heap.size, [.int .i64 x.k, .int .i64 x.s, .int .i64 x.e, .int .i64 x.c1, .int .i64 x.s1, .int .i64 x.m1, .int .i64 x.x1, .int .i64 x.c2, .int .i64 x.s2, .int .i64 x.m2, .int .i64 x.x2])] := ⟨_, Loc.drew hl1, by simp, fun _ h => h⟩
  have HQ := Lib.hid hq
  clear hq
  (repeat unfold Loc at hR)
  have hbX : Below w.heap.size w w1 := blr
  have ho1 := hown.below hbX
  clear hl1
  go_wp2_with fail
  refine wp_region_held_drew (S := HasL lE) (by kernel_rfl) hE (fun hHeld => ?_)
  refine hT 0 ?_; refine hT 1 ?_; refine hT 2 ?_; refine hT 3 ?_; refine hT 4 ?_
  refine hC 5 fun K hK => ?_; go_simp
  go_at_call 93
  refine (merge_any g n c base p 62 l y x.a x.b _ HY.out (own_drew ho1) HXA.out HXB.out HYA.out HYB.out).mono ?_
  rintro r w2 ⟨err, y', rfl, own2, hg2, hres⟩
  have hE2 : HasL lE w2 := Loc.grown hg2 (fun q hq => by rw [HQ.out q hq]; simp; omega) (by assumption)
  have HG := Lib.hid (grown_trans (grown_of_below (below_drew hbX) (some g)) hg2); have HRES := Lib.hid hres
  clear hg2 hres
  refine hK.out _ _ hE2 (fun hHeld => ?_)
  clear hK K
  (try simp only [Act.put, List.setIfInBounds_toArray, List.set_cons_zero, List.set_cons_succ])
  refine hT 6 ?_
  refine hD ?_
  clear hR hE hE2
  go_wp2
  go_ret2
  refine ⟨_, err, _, rfl, own2, HG.out, .inl rfl, ?_⟩
  rw [HPE.out]
  rcases HRES.out with ⟨h1, h2, h3⟩ | ⟨h1, h2⟩
  ·subst h2
   exact .inl ⟨h1, rfl, h3⟩
  ·exact .inr ⟨h1, h2⟩
end Go.Proofs.YtnljihjhmgpcoaaGreat
namespace Go.Proofs.YtnljihjhmgpcoaaGreat
open Go.RowKit Go.Lib
theorem row_take {sz base : Nat} {e : TypeId} {g n cap : Nat} {w : World} {xs : List Value} (h : w.ownsRow base e sz (.slice (some ⟨g, 0, none⟩) n cap) n xs) (m : Nat) (hm : m ≤ n) :
  w.ownsRow base e sz (.slice (some ⟨g, 0, none⟩) m cap) m (xs.take (m * sz)) := by
 obtain ⟨hl, h2⟩ := h
 have hle := Nat.mul_le_mul_right sz hm
 refine ⟨by rw [List.length_take, hl]; omega, ?_⟩
 rcases h2 with ⟨h', _⟩ | ⟨g', cap', cur, h', hb, hg, hnc, hcm, hcs, htake⟩
 ·cases h'
 ·simp only [Value.slice.injEq, Option.some.injEq, Addr.mk.injEq, and_true] at h'
  obtain ⟨rfl, -, rfl⟩ := h'
  refine .inr ⟨g, cap, cur, rfl, hb, hg, by omega, hcm, hcs, ?_⟩
  rw [← htake, List.take_take, Nat.min_eq_left hle]
theorem run_clear_k {P : Program} (w : World) (t ty elem : TypeId) (z : Value) (b o n cap : Nat) (hn : 0 < n) (hu : P.underlying t = some (.slice elem)) (i : TypeInfo) (hi : P.info? elem = some i) (hz : i.zero = some z)
  (hc : ∀ j, j < (Builtin.zeroCells z.cells n).toList.length → (w.cell? ⟨b, o + j, none⟩).isSome = true) (hf : ∀ j, j < (Builtin.zeroCells z.cells n).toList.length → w.frozen? ⟨b, o + j, none⟩ = false) (h1 : ∀ v ∈ (Builtin.zeroCells z.cells n).toList, v.oneCell' = true) :
  (Builtin.clear_ #[t] ty #[.slice (some ⟨b, o, none⟩) n cap]).run P w = .ok (.tuple #[]) (w.setCells b o (Builtin.zeroCells z.cells n).toList) := by
 have hst := run_storeCells_cells (P := P) b o (Builtin.zeroCells z.cells n).toList 0 w (by simpa using hc) (by simpa using hf) h1
 obtain ⟨m, rfl⟩ : ∃ m, n = m + 1 := ⟨n - 1, by omega⟩
 simp [Builtin.clear_, run_underlying hu, zeroValue, typeInfo, hi, hz, hst]
theorem wpList_clear_eq {P : Program} (w : World) {ops : Array Oper} {rest : List Oper} {o : Oper} {a : Act} {Q : Exit → Act → World → Prop} (hgd : o.guard = none) (s : Operand) (t : TypeId)
  (ho : o.op = .call { callee := .builtin .clear, args := #[s], argTypes := #[t] }) (v : Value) (hs : a.eval s = v) {v' : Value} {w' : World}
  (hr : (Builtin.clear_ #[t] o.type #[v]).run P w = .ok v' w') (h : wpList P ops Q rest (a.put o.dst v') w') : wpList P ops Q (o :: rest) a w :=
 wpList_plain hgd fun K hK => by
  unfold Oper.wp execOp
  simp only [ho, resolve, invoke, builtin, Sem.run_bind, Sem.run_pure, Result.andThen_ok, List.map_toArray, List.map_cons, List.map_nil, hs, hr]
  exact hK _ _ h
/-- What Delete leaves. -/
def DelP (base g n c : Nat) (l : List En) (w : World) (r : Ending) (w' : World) : Prop :=
 r = .returned (.slice (some ⟨g, 0, none⟩) n c) ∧ Own enenc 11 w' base 62 (.slice (some ⟨g, 0, none⟩) n c) l ∧ w.grownBy w' (some g)
set_option maxHeartbeats 4000000 in
set_option maxRecDepth 100000 in
theorem delete_any (base g i n c : Nat) (l : List En) (w : World) (hn : l.length = n) (hb0 : n ≤ 1099511627776) (hi : i < n) (hown : Own enenc 11 w base 62 (.slice (some ⟨g, 0, none⟩) n c) l) :
  Calls Tryz.prog 94 #[.slice (some ⟨g, 0, none⟩) n c, .int .i64 i, .int .i64 ((i : Int) + 1)] w (DelP base g (n - 1) c (l.eraseIdx i) w) := by
 obtain ⟨i0, hi0, hz0, hz1, hz2⟩ := info_parts en_info
 have hrow : w.ownsRow base 62 11 (.slice (some ⟨g, 0, none⟩) n c) n (l.flatMap enenc) := by have h := hown; unfold Own at h; rw [hn] at h; exact h
 obtain ⟨A', c', hv, hnc, hcm, -⟩ := hown.form
 obtain rfl : c = c' := by injection hv
 rw [hn] at hnc
 clear hv
 unfold maxLen at hcm
 have hfl := flat_length enenc_len l
 rw [hn] at hfl
 obtain ⟨news, hnews⟩ : ∃ news, news = (l.drop (i + 1)).flatMap enenc := ⟨_, rfl⟩
 have hnl : news.length = (n - (i + 1)) * 11 := by rw [hnews, flat_length enenc_len, List.length_drop, hn]
 obtain ⟨A, hA, hsrc⟩ : ∃ A : Addr, (if c = i + 1 then some (⟨g, 0, none⟩ : Addr) else some ⟨g, (i + 1) * 11, none⟩) = some A ∧ (∀ t u, news[t]? = some u → w.drew.cell? (A.add t) = some u) := by
  by_cases h : c = i + 1
  ·refine ⟨⟨g, 0, none⟩, by simp [h], fun t u hu => ?_⟩
   have h0 : news.length = 0 := by rw [hnl]; omega
   rw [List.length_eq_zero_iff.1 h0] at hu
   simp at hu
  ·refine ⟨⟨g, (i + 1) * 11, none⟩, by simp [h], fun t u hu => ?_⟩
   rw [hnews, ← (flat_take enenc_len l (i + 1) (by omega)).2, List.getElem?_drop] at hu
   have := World.ownsRow.cells hrow (g := g) rfl ((i + 1) * 11 + t) u hu
   rw [Addr.add_lit, Nat.zero_add] at this
   rw [Addr.add_lit]
   exact this
 have hfz := fun o => World.ownsRow.frozenAt hrow o
 have s3 : ∀ t, t < news.length → (w.drew.cell? ⟨g, 0 + i * 11 + t, none⟩).isSome = true ∧ w.drew.frozen? ⟨g, 0 + i * 11 + t, none⟩ = false := fun t ht => by
  rw [Nat.zero_add]
  exact ⟨row_cell hrow (i * 11 + t) (by rw [hfl]; rw [hnl] at ht; omega), hfz _⟩
 have hr1 := row_cells (row_drew hrow) (i * 11) news (by rw [hfl, hnl]; omega)
 obtain ⟨W1, hW1⟩ : ∃ W1, W1 = w.drew.setCells g (i * 11) news := ⟨_, rfl⟩
 rw [← hW1] at hr1
 obtain ⟨xs1, hxs1⟩ : ∃ xs1, xs1 = (l.flatMap enenc).take (i * 11) ++ news ++ (l.flatMap enenc).drop (i * 11 + news.length) := ⟨_, rfl⟩
 rw [← hxs1] at hr1
 have hx1l : xs1.length = n * 11 := hr1.1.1
 obtain ⟨z, hz⟩ : ∃ z : Value, z = .agg #[.int .i64 0, .int .i64 0, .int .i64 0, .int .i64 0, .int .i64 0, .int .i64 0, .int .i64 0, .int .i64 0, .int .i64 0, .int .i64 0, .int .i64 0] := ⟨_, rfl⟩
 rw [← hz] at hz0
 obtain ⟨zs, hzs⟩ : ∃ zs, zs = (Builtin.zeroCells z.cells 1).toList := ⟨_, rfl⟩
 have hzl : zs.length = 11 := by rw [hzs, hz]; decide +kernel
 have hz11 : ∀ v ∈ zs, v.oneCell' = true := by rw [hzs, hz]; decide +kernel
 have hf1 := fun o => World.ownsRow.frozenAt hr1.1 o
 have hcl : ∀ ty cc, (Builtin.clear_ #[51] ty #[.slice (some ⟨g, (n - 1) * 11, none⟩) 1 cc]).run Tryz.prog W1 = .ok (.tuple #[]) (W1.setCells g ((n - 1) * 11) zs) := fun ty cc => by
  have h := run_clear_k (P := Tryz.prog) W1 51 ty 62 z g ((n - 1) * 11) 1 cc (by decide) Tryz.underlying51 i0 hi0 hz0 (fun j hj => by rw [← hzs, hzl] at hj; exact row_cell hr1.1 _ (by rw [hx1l]; omega)) (fun j _ => hf1 _) (by rw [← hzs]; exact hz11)
  rw [← hzs] at h
  exact h
 have hr2 := row_cells hr1.1 ((n - 1) * 11) zs (by rw [hx1l, hzl]; omega)
 have hr3 := row_take hr2.1 (n - 1) (by omega)
 have hfin : (xs1.take ((n - 1) * 11) ++ zs ++ xs1.drop ((n - 1) * 11 + zs.length)).take ((n - 1) * 11) = (l.eraseIdx i).flatMap enenc := by
  have h1 : (xs1.take ((n - 1) * 11)).length = (n - 1) * 11 := by rw [List.length_take, hx1l]; omega
  rw [List.append_assoc, List.take_left' h1, hxs1]
  have h2 : ((l.flatMap enenc).take (i * 11)).length = i * 11 := by rw [List.length_take, hfl]; omega
  rw [List.take_left' (by rw [List.length_append, h2, hnl]; omega), (flat_take enenc_len l i (by omega)).1, hnews, List.eraseIdx_eq_take_drop_succ, List.flatMap_append]
 rw [hfin] at hr3
 have hel : (l.eraseIdx i).length = n - 1 := by rw [List.length_eraseIdx_of_lt (by omega), hn]
 have hown2 : Own enenc 11 (W1.setCells g ((n - 1) * 11) zs) base 62 (.slice (some ⟨g, 0, none⟩) (n - 1) c) (l.eraseIdx i) := by unfold Own; rw [hel]; exact hr3
 have HO := Lib.hid hown2; have HG := Lib.hid (grown_trans (grown_of_below (below_drew (Below.refl _ _)) (some g)) (grown_trans hr1.2 hr2.2))
 have HW := Lib.hid hW1; have HS := Lib.hid hsrc; have HS3 := Lib.hid s3; have HN1 : Hid (∀ u ∈ news, u.oneCell' = true) := Lib.hid (by rw [hnews]; exact enenc_one _)
 have HNL := Lib.hid hnl
 have d0 : ((i : Int) == (i : Int) + 1) = false := by simp; omega
 have t1 : ((i : Int) + 1).toNat = i + 1 := by omega
 have b1 : (0 : Int) ≤ (i : Int) + 1 := by omega
 have b2 : (i : Int) ≤ (i : Int) + 1 := by omega
 have b3 : (i : Int) + 1 ≤ (n : Int) := by omega
 have b4 : (i : Int) + 1 ≤ (c : Int) := by omega
 have b5 : (n : Int) ≤ (c : Int) := by omega
 have hic : i ≤ c := by omega
 obtain ⟨p, hp⟩ : ∃ p, p = n - 1 := ⟨_, rfl⟩
 rw [← hp] at hcl
 have HCL := Lib.hid hcl; have HP := Lib.hid hp
 have HPI := Lib.hid (show i + (n - (i + 1)) = p by omega)
 have c1 : n - p = 1 := by omega
 have c2 : ¬ c = p := by omega
 have c3 : (p : Int) ≤ (n : Int) := by omega
 have c4 : p ≤ n := by omega
 clear hcl hp
 clear hr1 hr2 hr3 hfin hel hown2 hxs1 hx1l hz hzs hzl hz11 hf1 hsrc s3 hfz hnl hnews hrow hfl hn hW1 hz0
 go_enter Tryz.func94, Tryz.ntmps94
 go_wp2_with fail
 refine wp_region_held_drew (S := AnyW) (by kernel_rfl) trivial (fun hHeld => ?_)
 refine hT 0 ?_; refine hT 1 ?_; refine hT 2 ?_; refine hT 3 ?_; refine hT 4 ?_; refine hT 5 ?_
 refine wpAnyH_ready (rs := [6]) (by kernel_rfl) (by simp) ?_
 refine hCons 6 (by decide) ?_ AllReadyH.nil
 (intro oi hoi; simp only [List.getElem?_toArray, List.getElem?_cons_succ, List.getElem?_cons_zero] at hoi; obtain rfl := Option.some.inj hoi; clear hoi); intro K hK
 refine step_append_room rfl (.tmp 22) (.tmp 25) 51 rfl 62 i0 11 Tryz.underlying51 hi0 hz1 g 0 i c rfl A (n - (i + 1)) (c - (i + 1)) news rfl HNL.out HS.out HN1.out (by omega) HS3.out ?_
 rw [Nat.zero_add, ← HW.out, show i + (n - (i + 1)) = p from HPI.out]
 refine hK.out _ _ trivial (fun _ => ?_)
 clear hK K
 (try simp only [Act.put, List.setIfInBounds_toArray, List.set_cons_zero, List.set_cons_succ])
 refine hTake 7 (by kernel_rfl) (by kernel_rfl) (by kernel_rfl) (by decide) (by assumption) ?_; (intro oi hoi; simp only [List.getElem?_toArray, List.getElem?_cons_succ, List.getElem?_cons_zero] at hoi; obtain rfl := Option.some.inj hoi; clear hoi); refine ⟨rfl, ?_⟩; apply Exists.intro; refine ⟨?_, fun _ _ _ h => h, ?_⟩; (intro w hSw; (try dsimp only at hSw); go_simp; (try with_reducible rfl)); (try simp only [Act.put, List.setIfInBounds_toArray, List.set_cons_zero])
 refine hD ?_
 clear hA
 go_wp2_with (refine wpList_clear_eq _ rfl (.tmp 31) 51 rfl (.slice (some ⟨g, p * 11, none⟩) 1 (c - p)) rfl (HCL.out _ _) ?_)
 go_ret
 exact ⟨by rw [← HP.out]; rfl, by have h := HO.out; rw [← HP.out] at h ⊢; exact h, by have h := HG.out; rw [← HP.out] at h; exact h⟩
set_option maxHeartbeats 2000000 in
set_option maxRecDepth 100000 in
theorem enclone_any (A : Option Addr) (c n : Nat) (l : List En) (w : World) (hln : l.length = n) (hz : A = none → c = 0) (hn : n ≤ 1099511627776) (hr : Rd enenc 11 w w.heap.size A l) :
  Calls Tryz.prog 54 #[.slice A n c] w fun e w' => ∃ v, e = .returned v ∧ Own enenc 11 w' w.heap.size 62 v l ∧ Below w.heap.size w w' := by
 obtain ⟨i0, hi0, hz0, hz1, hz2⟩ := info_parts en_info
 have HL := Lib.hid hln
 have hu : ∀ (w : World) (a : Option Addr) (n c n' c' : Nat), (binOp .eql 51 (.slice a n c) (.slice none n' c')).run Tryz.prog w = .ok (.bool a.isNone) w := fun w a n c n' c' => Lib.run_eql_slice_nil w _ _ a n c n' c' Tryz.underlying51
 cases A with
 | none =>
  obtain rfl := hz rfl
  obtain rfl := rd_none hr
  obtain rfl : n = 0 := hln.symm
  go_enter Tryz.func54, Tryz.ntmps54
  go_wp2
  go_ret
  exact ⟨_, rfl, Own.nil _ _ _, blr⟩
 | some ad =>
  clear hln
  go_enter Tryz.func54, Tryz.ntmps54
  go_wp2_with (at_builtin; refine wpList_append_copy rfl (.tmp 5) (.tmp 6) 51 rfl w.heap.size 62 i0 (.agg #[.int .i64 0, .int .i64 0, .int .i64 0, .int .i64 0, .int .i64 0, .int .i64 0, .int .i64 0, .int .i64 0, .int .i64 0, .int .i64 0, .int .i64 0]) 11 88 Tryz.underlying51 hi0 hz0 hz1 hz2 rfl (by decide) enenc enenc_len w.heap.size 0 l rfl (own_empty (heap_alloc_new w (.cells #[] 62)) (Nat.le_refl _)) (some ad) n c rfl HL.out hz (rd_grown hr blr) (enenc_one l) (by unfold maxLen; omega) (by omega) (by simp) ?_; intro g cap w2 hown2 hcap hg2 hb2)
  go_ret
  exact ⟨_, rfl, hown2, (below_new (Below.refl _ _) _).trans hb2⟩
end Go.Proofs.YtnljihjhmgpcoaaGreat
namespace Go.Proofs.YtnljihjhmgpcoaaGreat
open Go.RowKit
/-- Of the same key, and they overlap. -/
def hitM (x y : En) : Bool := (decide (y.k = x.k)) && (decide (y.s < x.e) && decide (x.s < y.e))
theorem hitM_hit {x y : En} (hx : x.s < x.e) (hy : y.s < y.e) : hitM x y = hitE true x y := by
 rw [hitE_sess hx hy]
 unfold hitM
 rw [Bool.eq_iff_iff]
 simp
def BoolP (b : Bool) (w : World) (r : Ending) (w' : World) : Prop := r = .returned (.bool b) ∧ Below w.heap.size w w'
set_option maxHeartbeats 4000000 in
set_option maxRecDepth 100000 in
theorem closM_any (y x : En) (gb : Nat) (w : World) (hg : gb < w.heap.size) (c0 : w.cell? ⟨gb, 0, none⟩ = some (.int .i64 x.k)) (c1 : w.cell? ⟨gb, 1, none⟩ = some (.int .i64 x.s)) (c2 : w.cell? ⟨gb, 2, none⟩ = some (.int .i64 x.e)) :
  Calls Tryz.prog 92 #[.agg #[.int .i64 y.k, .int .i64 y.s, .int .i64 y.e, .int .i64 y.c1, .int .i64 y.s1, .int .i64 y.m1, .int .i64 y.x1, .int .i64 y.c2, .int .i64 y.s2, .int .i64 y.m2, .int .i64 y.x2], .pointer (some ⟨gb, 0, none⟩)] w (BoolP (hitM x y) w) := by
 obtain ⟨b1, h1⟩ : ∃ b, (y.k == x.k) = b := ⟨_, rfl⟩
 obtain ⟨b2, h2⟩ : ∃ b, decide (y.s < x.e) = b := ⟨_, rfl⟩
 obtain ⟨b3, h3⟩ : ∃ b, decide (x.s < y.e) = b := ⟨_, rfl⟩
 have hv : hitM x y = (b1 && (b2 && b3)) := by
  unfold hitM
  rw [← h1, ← h2, ← h3]
  rfl
 rw [hv]
 have hne : gb ≠ w.heap.size := by omega
 clear hv
 cases b1 with
 | false =>
  go_enter Tryz.func92, Tryz.ntmps92
  go_wp2
  go_ret
  exact ⟨rfl, bel⟩
 | true =>
  cases b2 with
  | false =>
   go_enter Tryz.func92, Tryz.ntmps92
   go_wp2
   go_ret
   exact ⟨rfl, bel⟩
  | true =>
   go_enter Tryz.func92, Tryz.ntmps92
   go_wp2
   go_ret
   exact ⟨rfl, bel⟩
def idxM (l : List En) (x : En) : Int := match l.findIdx? (hitM x) with
 | some i => (i : Int)
 | none => -1
def IntP (n : Int) (w : World) (r : Ending) (w' : World) : Prop := r = .returned (.int .i64 n) ∧ Below w.heap.size w w'
theorem idx_at {l : List En} {x y : En} {k : Nat} (h : ∀ m z, m < k → l[m]? = some z → hitM x z = false) (hy : l[k]? = some y) (hh : hitM x y = true) : idxM l x = k := by
 obtain ⟨hk, hyk⟩ := List.getElem?_eq_some_iff.1 hy
 have : l.findIdx? (hitM x) = some k := List.findIdx?_eq_some_iff_getElem.2 ⟨hk, by rw [hyk]; exact hh, fun j hj => by
  have := h j l[j] hj (List.getElem?_eq_getElem (by omega))
  simp [this]⟩
 unfold idxM
 rw [this]
theorem idx_none {l : List En} {x : En} (h : ∀ m z, m < l.length → l[m]? = some z → hitM x z = false) : idxM l x = -1 := by
 have : l.findIdx? (hitM x) = none := List.findIdx?_eq_none_iff.2 fun y hy => by
  obtain ⟨m, hm⟩ := List.mem_iff_getElem?.1 hy
  exact h m y (List.getElem?_eq_some_iff.1 hm).1 hm
 unfold idxM
 rw [this]
set_option maxHeartbeats 4000000 in
set_option maxRecDepth 100000 in
theorem index_any (A : Option Addr) (c n gb : Nat) (l : List En) (x : En) (w : World) (hn : l.length = n) (hb0 : n ≤ 1099511627776) (hr : Rd enenc 11 w w.heap.size A l)
  (hg : gb < w.heap.size) (c0 : w.cell? ⟨gb, 0, none⟩ = some (.int .i64 x.k)) (c1 : w.cell? ⟨gb, 1, none⟩ = some (.int .i64 x.s)) (c2 : w.cell? ⟨gb, 2, none⟩ = some (.int .i64 x.e)) :
  Calls Tryz.prog 91 #[.slice A n c, .func (.func 92) #[] #[.pointer (some ⟨gb, 0, none⟩)]] w (IntP (idxM l x) w) := by
 have HN := Lib.hid hn
 have hclo := fun y W (h : Below w.heap.size w W) => closM_any y x gb W (Nat.lt_of_lt_of_le hg h.size) ((h.cell (p := ⟨gb, 0, none⟩) hg).trans c0) ((h.cell (p := ⟨gb, 1, none⟩) hg).trans c1) ((h.cell (p := ⟨gb, 2, none⟩) hg).trans c2)
 have HC := Lib.hid hclo
 clear hn hclo c0 c1 c2
 go_enter Tryz.func91, Tryz.ntmps91
 go_wp2_with fail
 go_loopw [8] (fun s wr => ∃ k : Nat, s = .int .i64 k ∧ k ≤ n ∧ (∀ m z, m < k → l[m]? = some z → hitM x z = false) ∧ Below w.heap.size w wr) (fun s _ => n - (intOf s).toNat)
 case atStart => exact ⟨0, rfl, Nat.zero_le _, fun m z h => absurd h (by omega), Below.refl _ _⟩
 case round =>
  obtain ⟨k, rfl, hk, hno, hb⟩ := hrel
  have HNO := Lib.hid hno
  clear hno
  by_cases hlt : k < n
  ·obtain ⟨y, hy⟩ : ∃ y, l[k]? = some y := ⟨_, List.getElem?_eq_getElem (by rw [HN.out]; exact hlt)⟩
   obtain ⟨b, off, rfl, hbb, f0, f1, f2, f3, f4, f5, f6, f7, f8, f9, f10⟩ := en_cells (rd_grown hr hb) hy
   have d1 : decide ((k : Int) < (n : Int)) = true := by simp; omega
   have d1' : decide (k < n) = true := by simp [hlt]
   have k1 : (0 : Int) ≤ (k : Int) := by omega
   have k2 : (k : Int) < (n : Int) := by omega
   have e1 : IntKind.i64.wrap ((k : Int) + 1) = (k : Int) + 1 := IntWalk.i64_in _ (by omega)
   obtain ⟨D, hD⟩ : ∃ D, D = hitM x y := ⟨_, rfl⟩
   have hc := HC.out y wr hb
   rw [← hD] at hc
   have HCY := Lib.hid hc; have HD := Lib.hid hD; have HY := Lib.hid hy
   clear hc hD hy hlt
   cases D with
   | false =>
    go_wp2_with fail
    go_at_call 92
    refine HCY.out.mono ?_
    rintro r w2 ⟨rfl, hb2⟩
    go_wp2
    go_roundw
    case rel => exact ⟨k + 1, by go_num, by omega, fun m z hm hz => by
     rcases Nat.lt_succ_iff_lt_or_eq.1 hm with h | rfl
     ·exact HNO.out m z h hz
     ·rw [HY.out] at hz; obtain rfl := Option.some.inj hz; exact HD.out.symm, below_then hb hb2⟩
    case measure => simp [intOf]; omega
   | true =>
    have hi := idx_at HNO.out HY.out HD.out.symm
    have HI := Lib.hid hi
    clear hi
    go_wp2_with fail
    go_at_call 92
    refine HCY.out.mono ?_
    rintro r w2 ⟨rfl, hb2⟩
    go_wp2
    go_ret
    exact ⟨by rw [HI.out]; rfl, below_then hb hb2⟩
  ·obtain rfl : k = n := by omega
   have hi := idx_none (l := l) (x := x) (fun m z hm hz => HNO.out m z (by rw [HN.out] at hm; exact hm) hz)
   have HI := Lib.hid hi
   have d1 : decide ((k : Int) < (k : Int)) = false := by simp
   have d1' : decide (k < k) = false := by simp
   clear hi
   go_wp2
   go_ret
   exact ⟨by rw [HI.out]; rfl, hb⟩
end Go.Proofs.YtnljihjhmgpcoaaGreat
