/- The reference's sorting of rows and of records (chapter 34), printed by wip/gen_sinkref.py. Condition: at most 4010 of them. -/
import Derived.Test.YtffehibdeogjeaaSinkOrder
import Derived.Test.YtffehibdeogjeaaKitG
namespace Go.Proofs.Ytffehibdeogjeaa
open Go.RowKit

theorem sl_info : (Try.prog.info? 61).map (fun i => (i.zero, i.size, i.bytes)) = some (some (.slice none 0 0), 1, 24) := by kernel_rfl
theorem qenc_len (q : Option Addr × Nat × Nat) : (qenc q).length = 1 := rfl
theorem qenc_one (l : List (Option Addr × Nat × Nat)) : ∀ u ∈ l.flatMap qenc, u.oneCell' = true := by
  intro u hu
  obtain ⟨x, _, hx⟩ := List.mem_flatMap.1 hu
  simp [qenc] at hx
  subst hx
  rfl
theorem q_new (w : World) (q : Option Addr × Nat × Nat) (t : TypeId) (g : Nat) (hg : g = w.heap.size) : ∀ j u, ([q].flatMap qenc)[j]? = some u → (w.alloc (.cells #[.slice q.1 q.2.1 q.2.2] t)).cell? ((⟨g, 0, none⟩ : Addr).add j) = some u := by
  subst hg
  intro j u hj
  match j, hj with
  | 0, hj => simp [qenc] at hj; subst hj; simp [Addr.add]
theorem w_new (w : World) (x : Rw) (t : TypeId) (g : Nat) (hg : g = w.heap.size) : ∀ j u, ([x].flatMap wenc)[j]? = some u → (w.alloc (.cells #[.int .i64 x.k, .int .i64 x.s, .int .i64 x.e, .int .i64 x.a, .int .i64 x.b] t)).cell? ((⟨g, 0, none⟩ : Addr).add j) = some u := by
  subst hg
  intro j u hj
  match j, hj with
  | 0, hj => simp [wenc] at hj; subst hj; simp [Addr.add]
  | 1, hj => simp [wenc] at hj; subst hj; simp [Addr.add]
  | 2, hj => simp [wenc] at hj; subst hj; simp [Addr.add]
  | 3, hj => simp [wenc] at hj; subst hj; simp [Addr.add]
  | 4, hj => simp [wenc] at hj; subst hj; simp [Addr.add]
theorem r_new (w : World) (x : Rc) (t : TypeId) (g : Nat) (hg : g = w.heap.size) : ∀ j u, ([x].flatMap renc)[j]? = some u → (w.alloc (.cells #[.int .i64 x.k, .int .i64 x.t, .int .i64 x.v] t)).cell? ((⟨g, 0, none⟩ : Addr).add j) = some u := by
  subst hg
  intro j u hj
  match j, hj with
  | 0, hj => simp [renc] at hj; subst hj; simp [Addr.add]
  | 1, hj => simp [renc] at hj; subst hj; simp [Addr.add]
  | 2, hj => simp [renc] at hj; subst hj; simp [Addr.add]
theorem rd_grownBy {α : Type} {enc : α → List Value} {sz : Nat} {w w' : World} {A : Option Addr} {l : List α} {row : Option Nat} (h : Rd enc sz w w.heap.size A l) (hg : w.grownBy w' row) (hne : ∀ ad, A = some ad → row ≠ some ad.block) : Rd enc sz w' w'.heap.size A l := fun hn => by
  obtain ⟨b, off, e, hb, hc⟩ := h hn
  refine ⟨b, off, e, Nat.lt_of_lt_of_le hb hg.size, fun k x hx j u hu => ?_⟩
  have := hg.block b hb (fun e' => hne _ e e'.symm)
  exact (World.cell?_of_block (a := ⟨b, off + k * sz + j, none⟩) this).trans (hc k x hx j u hu)
/-- The slices that a row of the call's own holds read as the lists, and none lies in the row itself. -/
def KeyOk (w : World) (v : Value) (qs : List (Option Addr × Nat × Nat)) (ks : List (List Int)) : Prop :=
  ∀ (i : Nat) (q : Option Addr × Nat × Nat) (k : List Int), qs[i]? = some q → ks[i]? = some k → q.2.1 = k.length ∧ Rd ienc 1 w w.heap.size q.1 k ∧ ∀ ad, q.1 = some ad → v.ownBlock ≠ some ad.block ∧ ad.block < w.heap.size
theorem key_app {w wr w3 w7 : World} {v v' : Value} {qs : List (Option Addr × Nat × Nat)} {ks : List (List Int)} {k : Nat} {key : List Int} {Q : Option Addr} {m : Nat} {o : Obj} {t : TypeId} (hko : KeyOk wr v qs ks) (hql : qs.length = k) (hkx : ks[k]? = some key) (how : Own qenc 1 wr w.heap.size t v qs)
    (hb3 : Below wr.heap.size wr w3) (rq : Rd ienc 1 w3 w3.heap.size Q key) (hq : ∀ ad, Q = some ad → wr.heap.size ≤ ad.block ∧ ad.block < w3.heap.size) (hm : m = key.length) (hgr : (w3.alloc o).grownBy w7 v.ownBlock) (hsf : v'.ownBlock = v.ownBlock ∨ ∀ k, v'.ownBlock = some k → (w3.alloc o).heap.size ≤ k) : KeyOk w7 v' (qs ++ [(Q, m, m)]) ks := by
  have hnb : Below w3.heap.size w3 (w3.alloc o) := below_new (Below.refl _ _) _
  have hsz : (w3.alloc o).heap.size = w3.heap.size + 1 := by simp
  have hown : ∀ g, v.ownBlock = some g → g < wr.heap.size := fun g hg => (World.ownsRow.lt how g hg).2
  intro i q kk hqi hki
  have fin : ∀ {q : Option Addr × Nat × Nat} {kk : List Int}, Rd ienc 1 w3 w3.heap.size q.1 kk → (∀ ad, q.1 = some ad → v.ownBlock ≠ some ad.block ∧ ad.block < w3.heap.size) → Rd ienc 1 w7 w7.heap.size q.1 kk ∧ ∀ ad, q.1 = some ad → v'.ownBlock ≠ some ad.block ∧ ad.block < w7.heap.size := by
    intro q kk h1 h2
    refine ⟨rd_grownBy (rd_grown h1 hnb) hgr (fun ad had => (h2 ad had).1), fun ad had => ?_⟩
    obtain ⟨h3, h4⟩ := h2 ad had
    have h5 := hgr.size
    refine ⟨fun e => ?_, by omega⟩
    rcases hsf with h | h
    · rw [h] at e; exact h3 e
    · have := h _ e; omega
  by_cases hi : i < k
  · rw [List.getElem?_append_left (by omega)] at hqi
    obtain ⟨h1, h2, h3⟩ := hko i q kk hqi hki
    obtain ⟨h4, h5⟩ := fin (q := q) (rd_grown h2 hb3) (fun ad had => ⟨(h3 ad had).1, Nat.lt_of_lt_of_le (h3 ad had).2 hb3.size⟩)
    exact ⟨h1, h4, h5⟩
  · have hik : i = k := by
      have := (List.getElem?_eq_some_iff.1 hqi).1
      simp at this
      omega
    subst hik
    rw [List.getElem?_append_right (by omega), hql, Nat.sub_self] at hqi
    simp only [List.getElem?_cons_zero, Option.some.injEq] at hqi
    subst hqi
    rw [hkx] at hki
    obtain rfl := Option.some.inj hki
    obtain ⟨h4, h5⟩ := fin (q := (Q, m, m)) rq (fun ad had => ⟨fun e => by have := hown _ e; have := (hq ad had).1; omega, (hq ad had).2⟩)
    exact ⟨hm, h4, h5⟩

theorem w_map {l : List Rw} {n : Nat} (hn : l.length = n) {P : List Nat} (hp : P.Perm (List.range' 0 n)) (hs : P.Pairwise (leI wlt w0 l)) : P.map (fun i => l.getD i w0) = sortL wlt w0 l := by
  refine (sortL_eq wsto w0 (ys := P.map fun i => l.getD i w0) ?_ ?_).symm
  · refine List.Perm.symm ((hp.map _).trans ?_)
    subst hn
    rw [show ((List.range' 0 l.length).map fun i => l.getD i w0) = l from ?_]
    apply List.ext_getElem?
    intro i
    by_cases hi : i < l.length
    · rw [List.getElem?_map, List.getElem?_range' hi, List.getElem?_eq_getElem hi]
      simp [hi]
    · rw [List.getElem?_eq_none (by simp; omega), List.getElem?_eq_none (by omega)]
  · exact List.pairwise_map.2 hs
set_option maxHeartbeats 8000000 in
set_option maxRecDepth 100000 in
theorem w_refsort (A : Option Addr) (c n : Nat) (l : List Rw) (w : World) (hn : l.length = n) (h4 : n ≤ 4000 + 10) (lr : Rd wenc 5 w w.heap.size A l) :
    Calls Try.prog 92 #[.slice A n c] w fun e w' => ∃ v, e = .returned v ∧ Own wenc 5 w' w.heap.size 72 v (sortL wlt w0 l) ∧ Below w.heap.size w w' := by
  obtain ⟨i0, hi0, hz0, hz1, hz2⟩ := info_parts sl_info
  obtain ⟨j0, hj0, hy0, hy1, hy2⟩ := info_parts w_info
  have hord := fun B d W h => order_any wkey wlt low_w wsto w0 5 wkey_len (by omega) l B d n hn (by omega) n 0 n (by omega) (Nat.le_refl _) W h
  have HORD := Lib.hid hord; have HN := Lib.hid hn
  clear hord hn
  go_enter Try.func92, Try.ntmps92
  go_wp2_with fail
  go_loopw [3, 4] (fun v i wr => ∃ (k : Nat) (qs : List (Option Addr × Nat × Nat)), k ≤ n ∧ i = .int .i64 k ∧ qs.length = k ∧ Own qenc 1 wr w.heap.size 61 v qs ∧ KeyOk wr v qs (l.map wkey) ∧ Below w.heap.size w wr) (fun _ i _ => n - (intOf i).toNat)
  case atStart => exact ⟨0, [], Nat.zero_le _, rfl, rfl, Own.nil _ _ _, (by intro i q k h; simp at h), Below.refl _ _⟩
  case round =>
    obtain ⟨k, qs, hk, rfl, hql, howo, hko, hb⟩ := hrel
    have HKO := Lib.hid hko; have HQL := Lib.hid hql
    clear hko hql
    by_cases hlt : k < n
    · obtain ⟨x, hx⟩ : ∃ x, l[k]? = some x := ⟨_, List.getElem?_eq_getElem (by rw [HN.out]; exact hlt)⟩
      have hkx : (l.map wkey)[k]? = some (wkey x) := by rw [List.getElem?_map, hx]; rfl
      obtain ⟨b, off, rfl, hbb, f1, f2, f3, f4, f5⟩ := rw_cells (rd_grown lr hb) hx
      have d1 : decide ((k : Int) < (n : Int)) = true := by simp; omega
      have d1' : decide (k < n) = true := by simp [hlt]
      have k1 : (0 : Int) ≤ (k : Int) := by omega
      have k2 : (k : Int) < (n : Int) := by omega
      have e1 : IntKind.i64.wrap ((k : Int) + 1) = (k : Int) + 1 := IntWalk.i64_in _ (by omega)
      have HKX := Lib.hid hkx
      clear hx hkx
      go_wp2_with (first
        | (go_at_call 124; refine (rkrow_any x _).mono ?_; rintro r w3 ⟨Q, rfl, rq, hq, hb3⟩)
        | (at_builtin; refine wpList_append_fs rfl _ _ 150 rfl w.heap.size 61 i0 (.slice none 0 0) 1 24 Try.underlying150 hi0 hz0 hz1 hz2 rfl (by decide) qenc qenc_len _ qs (Q, 5, 5) rfl ((howo.below hb3).alloc (.cells #[.slice Q 5 5] 61)) ⟨w3.heap.size, 0, none⟩ 1 rfl (q_new w3 (Q, 5, 5) 61 w3.heap.size rfl) (qenc_one _) (by unfold maxLen; have := HQL.out; omega) (by have := HQL.out; omega) (by have := hb3.size; have := hb.size; rw [World.size_alloc]; omega) ?_; intro v' w7 own7 hgr7 hsf))
      have hko7 := key_app (w := w) HKO.out HQL.out HKX.out howo hb3 rq hq rfl hgr7 hsf
      have HKO7 := Lib.hid hko7
      have hb7 : Below w.heap.size w w7 := ((below_then hb hb3).alloc (below_then hb hb3).size _).grown hgr7 (by rw [World.size_alloc]; have := (below_then hb hb3).size; omega) (fun k hk => (World.ownsRow.lt howo k hk).1)
      clear hko7 hgr7 hsf howo hb3 hb rq hq
      go_wp2
      go_roundw
      case rel => exact ⟨k + 1, qs ++ [(Q, 5, 5)], by omega, by go_num, by rw [List.length_append, HQL.out]; rfl, own7, HKO7.out, hb7⟩
      case measure => simp [intOf]; omega
    · obtain rfl : n = k := by omega
      have d1 : decide ((n : Int) < (n : Int)) = false := by simp
      have d1' : decide (n < n) = false := by simp
      obtain ⟨B, d', rfl, -, -⟩ := own_shape_z howo HQL.out
      have hrk : RdKeys wr wr.heap.size B (l.map wkey) := ⟨qs, by rw [HQL.out, List.length_map, HN.out], Own.rd qenc_len howo, fun i q k hq hk => let h := HKO.out i q k hq hk; ⟨h.1, h.2.1⟩⟩
      have lr2 := rd_grown lr hb
      clear howo
      go_wp2_with fail
      go_at_call 94
      refine (HORD.out _ _ _ hrk).mono ?_
      rintro r w4 ⟨v4, P, rfl, own4, hp, hs, hb4⟩
      have hpl : P.length = n := by rw [hp.length_eq, List.length_range']
      obtain ⟨A4, c4, rfl, -, -⟩ := own_shape_z own4 hpl
      have hfin := w_map HN.out hp hs
      have HP := Lib.hid hp; have HPL := Lib.hid hpl; have HFIN := Lib.hid hfin
      have hb04 := below_then hb hb4
      have rdP := Own.rd nenc_len own4
      have lr4 := rd_grown lr2 hb4
      clear hp hs hpl hfin own4 hrk hb4 hb lr lr2
      go_wp2_with fail
      go_loopw [6, 7] (fun o i wp => ∃ (j : Nat), j ≤ n ∧ i = .int .i64 j ∧ Own wenc 5 wp w4.heap.size 72 o ((P.take j).map fun i => l.getD i w0) ∧ Below w4.heap.size w4 wp) (fun _ i _ => n - (intOf i).toNat)
      case atStart => exact ⟨0, Nat.zero_le _, rfl, Own.nil _ _ _, Below.refl _ _⟩
      case round =>
        obtain ⟨j, hj, rfl, howo, hb⟩ := hrel
        by_cases hjn : j < n
        · obtain ⟨y, hy⟩ : ∃ y, P[j]? = some y := ⟨_, List.getElem?_eq_getElem (by rw [HPL.out]; exact hjn)⟩
          have hyn : y < n := by
            obtain ⟨z, hz1, hz2⟩ := List.mem_range'.1 (HP.out.mem_iff.1 (List.mem_of_getElem? hy))
            omega
          obtain ⟨x, hx⟩ : ∃ x, l[y]? = some x := ⟨_, List.getElem?_eq_getElem (by rw [HN.out]; exact hyn)⟩
          have hnx : ((P.take (j + 1)).map fun i => l.getD i w0) = ((P.take j).map fun i => l.getD i w0) ++ [x] := by
            rw [List.take_add_one, hy, List.map_append]
            simp [List.getD_eq_getElem?_getD, hx]
          obtain ⟨bp, op, rfl, -, fp⟩ := nat_at (rd_grown rdP hb) hy
          obtain ⟨b, off, rfl, hbb, f1, f2, f3, f4, f5⟩ := rw_cells (rd_grown lr4 hb) hx
          have d2 : decide ((j : Int) < (n : Int)) = true := by simp; omega
          have d2' : decide (j < n) = true := by simp [hjn]
          have j1 : (0 : Int) ≤ (j : Int) := by omega
          have j2 : (j : Int) < (n : Int) := by omega
          have y1 : (0 : Int) ≤ (y : Int) := by omega
          have y2 : (y : Int) < (n : Int) := by omega
          have e1 : IntKind.i64.wrap ((j : Int) + 1) = (j : Int) + 1 := IntWalk.i64_in _ (by omega)
          have hol : ((P.take j).map fun i => l.getD i w0).length = j := by rw [List.length_map, List.length_take, HPL.out]; omega
          have HNX := Lib.hid hnx; have HOL := Lib.hid hol
          clear hx hy hnx hol
          go_wp2_with (at_builtin; refine wpList_append_fs rfl _ _ 64 rfl w4.heap.size 72 j0 (.agg #[.int .i64 0, .int .i64 0, .int .i64 0, .int .i64 0, .int .i64 0]) 5 40 Try.underlying64 hj0 hy0 hy1 hy2 rfl (by decide) wenc wenc_len _ ((P.take j).map fun i => l.getD i w0) x rfl (howo.alloc (.cells #[.int .i64 x.k, .int .i64 x.s, .int .i64 x.e, .int .i64 x.a, .int .i64 x.b] 72)) ⟨wr.heap.size, 0, none⟩ 1 rfl (w_new wr x 72 wr.heap.size rfl) (wenc_one _) (by unfold maxLen; have := HOL.out; omega) (by have := HOL.out; omega) (by have := hb.size; rw [World.size_alloc]; omega) ?_; intro v' w7 own7 hgr7 hsf)
          have hb7 : Below w4.heap.size w4 w7 := (hb.alloc hb.size _).grown hgr7 (by rw [World.size_alloc]; have := hb.size; omega) (fun k hk => (World.ownsRow.lt howo k hk).1)
          rw [← HNX.out] at own7
          clear hgr7 hsf
          go_wp2
          go_roundw
          case rel => exact ⟨j + 1, by omega, by go_num, own7, hb7⟩
          case measure => simp [intOf]; omega
        · obtain rfl : n = j := by omega
          have d2 : decide ((n : Int) < (n : Int)) = false := by simp
          have d2' : decide (n < n) = false := by simp
          rw [List.take_of_length_le (by rw [HPL.out]; exact Nat.le_refl _), HFIN.out] at howo
          have hbf := below_then hb04 hb
          go_wp2
          go_ret
          exact ⟨_, rfl, howo.mono hb04.size, hbf⟩

theorem r_map {l : List Rc} {n : Nat} (hn : l.length = n) {P : List Nat} (hp : P.Perm (List.range' 0 n)) (hs : P.Pairwise (leI rlt r0 l)) : P.map (fun i => l.getD i r0) = sortL rlt r0 l := by
  refine (sortL_eq rsto r0 (ys := P.map fun i => l.getD i r0) ?_ ?_).symm
  · refine List.Perm.symm ((hp.map _).trans ?_)
    subst hn
    rw [show ((List.range' 0 l.length).map fun i => l.getD i r0) = l from ?_]
    apply List.ext_getElem?
    intro i
    by_cases hi : i < l.length
    · rw [List.getElem?_map, List.getElem?_range' hi, List.getElem?_eq_getElem hi]
      simp [hi]
    · rw [List.getElem?_eq_none (by simp; omega), List.getElem?_eq_none (by omega)]
  · exact List.pairwise_map.2 hs
set_option maxHeartbeats 8000000 in
set_option maxRecDepth 100000 in
theorem r_refsort (A : Option Addr) (c n : Nat) (l : List Rc) (w : World) (hn : l.length = n) (h4 : n ≤ 4000) (lr : Rd renc 3 w w.heap.size A l) :
    Calls Try.prog 54 #[.slice A n c] w fun e w' => ∃ v, e = .returned (.tuple #[v, .int .i64 0]) ∧ Own renc 3 w' w.heap.size 69 v (sortL rlt r0 l) ∧ Below w.heap.size w w' := by
  obtain ⟨i0, hi0, hz0, hz1, hz2⟩ := info_parts sl_info
  obtain ⟨j0, hj0, hy0, hy1, hy2⟩ := info_parts r_info
  have hord := fun B d W h => order_any rkey rlt low_r rsto r0 3 rkey_len (by omega) l B d n hn (by omega) n 0 n (by omega) (Nat.le_refl _) W h
  have HORD := Lib.hid hord; have HN := Lib.hid hn
  clear hord hn
  have d0 : decide ((4000 : Int) < (n : Int)) = false := by simp; omega
  have d0' : decide (4000 < n) = false := by simp; omega
  go_enter Try.func54, Try.ntmps54
  go_wp2_with fail
  go_loopw [4, 5] (fun v i wr => ∃ (k : Nat) (qs : List (Option Addr × Nat × Nat)), k ≤ n ∧ i = .int .i64 k ∧ qs.length = k ∧ Own qenc 1 wr w.heap.size 61 v qs ∧ KeyOk wr v qs (l.map rkey) ∧ Below w.heap.size w wr) (fun _ i _ => n - (intOf i).toNat)
  case atStart => exact ⟨0, [], Nat.zero_le _, rfl, rfl, Own.nil _ _ _, (by intro i q k h; simp at h), Below.refl _ _⟩
  case round =>
    obtain ⟨k, qs, hk, rfl, hql, howo, hko, hb⟩ := hrel
    have HKO := Lib.hid hko; have HQL := Lib.hid hql
    clear hko hql
    by_cases hlt : k < n
    · obtain ⟨x, hx⟩ : ∃ x, l[k]? = some x := ⟨_, List.getElem?_eq_getElem (by rw [HN.out]; exact hlt)⟩
      have hkx : (l.map rkey)[k]? = some (rkey x) := by rw [List.getElem?_map, hx]; rfl
      obtain ⟨b, off, rfl, hbb, f1, f2, f3⟩ := rc_cells (rd_grown lr hb) hx
      have d1 : decide ((k : Int) < (n : Int)) = true := by simp; omega
      have d1' : decide (k < n) = true := by simp [hlt]
      have k1 : (0 : Int) ≤ (k : Int) := by omega
      have k2 : (k : Int) < (n : Int) := by omega
      have e1 : IntKind.i64.wrap ((k : Int) + 1) = (k : Int) + 1 := IntWalk.i64_in _ (by omega)
      have HKX := Lib.hid hkx
      clear hx hkx
      go_wp2_with (first
        | (go_at_call 93; refine (rkrec_any x _).mono ?_; rintro r w3 ⟨Q, rfl, rq, hq, hb3⟩)
        | (at_builtin; refine wpList_append_fs rfl _ _ 150 rfl w.heap.size 61 i0 (.slice none 0 0) 1 24 Try.underlying150 hi0 hz0 hz1 hz2 rfl (by decide) qenc qenc_len _ qs (Q, 3, 3) rfl ((howo.below hb3).alloc (.cells #[.slice Q 3 3] 61)) ⟨w3.heap.size, 0, none⟩ 1 rfl (q_new w3 (Q, 3, 3) 61 w3.heap.size rfl) (qenc_one _) (by unfold maxLen; have := HQL.out; omega) (by have := HQL.out; omega) (by have := hb3.size; have := hb.size; rw [World.size_alloc]; omega) ?_; intro v' w7 own7 hgr7 hsf))
      have hko7 := key_app (w := w) HKO.out HQL.out HKX.out howo hb3 rq hq rfl hgr7 hsf
      have HKO7 := Lib.hid hko7
      have hb7 : Below w.heap.size w w7 := ((below_then hb hb3).alloc (below_then hb hb3).size _).grown hgr7 (by rw [World.size_alloc]; have := (below_then hb hb3).size; omega) (fun k hk => (World.ownsRow.lt howo k hk).1)
      clear hko7 hgr7 hsf howo hb3 hb rq hq
      go_wp2
      go_roundw
      case rel => exact ⟨k + 1, qs ++ [(Q, 3, 3)], by omega, by go_num, by rw [List.length_append, HQL.out]; rfl, own7, HKO7.out, hb7⟩
      case measure => simp [intOf]; omega
    · obtain rfl : n = k := by omega
      have d1 : decide ((n : Int) < (n : Int)) = false := by simp
      have d1' : decide (n < n) = false := by simp
      obtain ⟨B, d', rfl, -, -⟩ := own_shape_z howo HQL.out
      have hrk : RdKeys wr wr.heap.size B (l.map rkey) := ⟨qs, by rw [HQL.out, List.length_map, HN.out], Own.rd qenc_len howo, fun i q k hq hk => let h := HKO.out i q k hq hk; ⟨h.1, h.2.1⟩⟩
      have lr2 := rd_grown lr hb
      clear howo
      go_wp2_with fail
      go_at_call 94
      refine (HORD.out _ _ _ hrk).mono ?_
      rintro r w4 ⟨v4, P, rfl, own4, hp, hs, hb4⟩
      have hpl : P.length = n := by rw [hp.length_eq, List.length_range']
      obtain ⟨A4, c4, rfl, -, -⟩ := own_shape_z own4 hpl
      have hfin := r_map HN.out hp hs
      have HP := Lib.hid hp; have HPL := Lib.hid hpl; have HFIN := Lib.hid hfin
      have hb04 := below_then hb hb4
      have rdP := Own.rd nenc_len own4
      have lr4 := rd_grown lr2 hb4
      clear hp hs hpl hfin own4 hrk hb4 hb lr lr2
      go_wp2_with fail
      go_loopw [7, 8] (fun o i wp => ∃ (j : Nat), j ≤ n ∧ i = .int .i64 j ∧ Own renc 3 wp w4.heap.size 69 o ((P.take j).map fun i => l.getD i r0) ∧ Below w4.heap.size w4 wp) (fun _ i _ => n - (intOf i).toNat)
      case atStart => exact ⟨0, Nat.zero_le _, rfl, Own.nil _ _ _, Below.refl _ _⟩
      case round =>
        obtain ⟨j, hj, rfl, howo, hb⟩ := hrel
        by_cases hjn : j < n
        · obtain ⟨y, hy⟩ : ∃ y, P[j]? = some y := ⟨_, List.getElem?_eq_getElem (by rw [HPL.out]; exact hjn)⟩
          have hyn : y < n := by
            obtain ⟨z, hz1, hz2⟩ := List.mem_range'.1 (HP.out.mem_iff.1 (List.mem_of_getElem? hy))
            omega
          obtain ⟨x, hx⟩ : ∃ x, l[y]? = some x := ⟨_, List.getElem?_eq_getElem (by rw [HN.out]; exact hyn)⟩
          have hnx : ((P.take (j + 1)).map fun i => l.getD i r0) = ((P.take j).map fun i => l.getD i r0) ++ [x] := by
            rw [List.take_add_one, hy, List.map_append]
            simp [List.getD_eq_getElem?_getD, hx]
          obtain ⟨bp, op, rfl, -, fp⟩ := nat_at (rd_grown rdP hb) hy
          obtain ⟨b, off, rfl, hbb, f1, f2, f3⟩ := rc_cells (rd_grown lr4 hb) hx
          have d2 : decide ((j : Int) < (n : Int)) = true := by simp; omega
          have d2' : decide (j < n) = true := by simp [hjn]
          have j1 : (0 : Int) ≤ (j : Int) := by omega
          have j2 : (j : Int) < (n : Int) := by omega
          have y1 : (0 : Int) ≤ (y : Int) := by omega
          have y2 : (y : Int) < (n : Int) := by omega
          have e1 : IntKind.i64.wrap ((j : Int) + 1) = (j : Int) + 1 := IntWalk.i64_in _ (by omega)
          have hol : ((P.take j).map fun i => l.getD i r0).length = j := by rw [List.length_map, List.length_take, HPL.out]; omega
          have HNX := Lib.hid hnx; have HOL := Lib.hid hol
          clear hx hy hnx hol
          go_wp2_with (at_builtin; refine wpList_append_fs rfl _ _ 65 rfl w4.heap.size 69 j0 (.agg #[.int .i64 0, .int .i64 0, .int .i64 0]) 3 24 Try.underlying65 hj0 hy0 hy1 hy2 rfl (by decide) renc renc_len _ ((P.take j).map fun i => l.getD i r0) x rfl (howo.alloc (.cells #[.int .i64 x.k, .int .i64 x.t, .int .i64 x.v] 69)) ⟨wr.heap.size, 0, none⟩ 1 rfl (r_new wr x 69 wr.heap.size rfl) (renc_one _) (by unfold maxLen; have := HOL.out; omega) (by have := HOL.out; omega) (by have := hb.size; rw [World.size_alloc]; omega) ?_; intro v' w7 own7 hgr7 hsf)
          have hb7 : Below w4.heap.size w4 w7 := (hb.alloc hb.size _).grown hgr7 (by rw [World.size_alloc]; have := hb.size; omega) (fun k hk => (World.ownsRow.lt howo k hk).1)
          rw [← HNX.out] at own7
          clear hgr7 hsf
          go_wp2
          go_roundw
          case rel => exact ⟨j + 1, by omega, by go_num, own7, hb7⟩
          case measure => simp [intOf]; omega
        · obtain rfl : n = j := by omega
          have d2 : decide ((n : Int) < (n : Int)) = false := by simp
          have d2' : decide (n < n) = false := by simp
          rw [List.take_of_length_le (by rw [HPL.out]; exact Nat.le_refl _), HFIN.out] at howo
          have hbf := below_then hb04 hb
          go_wp2
          go_ret2
          exact ⟨_, rfl, howo.mono hb04.size, hbf⟩
end Go.Proofs.Ytffehibdeogjeaa
