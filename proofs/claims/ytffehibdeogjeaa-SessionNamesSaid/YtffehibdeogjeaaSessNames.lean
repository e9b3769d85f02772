/- The walk of SessionNames (chapter 15), printed by wip/gen_sessnames.py. No condition. -/
import Derived.Test.YtffehibdeogjeaaSessNPlain
namespace Go.Proofs.Ytffehibdeogjeaa
open Go.RowKit

theorem rd_pref {α : Type} {enc : α → List Value} {sz : Nat} {w : World} {B : Nat} {A : Option Addr} {l : List α} (h : Rd enc sz w B A l) (j : Nat) : Rd enc sz w B A (l.take j) := fun hn => by
  obtain ⟨b, off, e, hb, hc⟩ := h (by rintro rfl; simp at hn)
  exact ⟨b, off, e, hb, fun k x hx => hc k x (by rw [List.getElem?_take] at hx; split at hx; exact hx; cases hx)⟩
theorem i64_info : (Try.prog.info? 2).map (fun i => (i.zero, i.size, i.bytes)) = some (some (.int .i64 0), 1, 8) := by kernel_rfl
theorem ienc_len (x : Int) : (ienc x).length = 1 := rfl
theorem ienc_one (l : List Int) : ∀ u ∈ l.flatMap ienc, u.oneCell' = true := by
  intro u hu
  obtain ⟨x, _, hx⟩ := List.mem_flatMap.1 hu
  simp [ienc] at hx
  subst hx
  rfl
theorem i64_new (w : World) (x : Int) (t : TypeId) (g : Nat) (hg : g = w.heap.size) : ∀ j u, ([x].flatMap ienc)[j]? = some u → (w.alloc (.cells #[.int .i64 x] t)).cell? ((⟨g, 0, none⟩ : Addr).add j) = some u := by
  subst hg
  intro j u hj
  match j, hj with
  | 0, hj => simp [ienc] at hj; subst hj; simp [Addr.add]
theorem two_app {α β : Type} {ea : α → List Value} {eb : β → List Value} {sa sb : Nat} {ta tb : TypeId} {w wr w7 : World} {u v v' : Value} {la : List α} {lb : List β} {o : Obj} (hb : Below w.heap.size w wr) (hu : Own ea sa wr w.heap.size ta u la) (hv : Own eb sb wr w.heap.size tb v lb)
    (hap : ∀ g, u.ownBlock = some g → v.ownBlock ≠ some g) (hgr : (wr.alloc o).grownBy w7 u.ownBlock) (hsf : v'.ownBlock = u.ownBlock ∨ ∀ k, v'.ownBlock = some k → (wr.alloc o).heap.size ≤ k) :
    Own eb sb w7 w.heap.size tb v lb ∧ (∀ g, v'.ownBlock = some g → v.ownBlock ≠ some g) ∧ Below w.heap.size w w7 := by
  refine ⟨(hv.alloc o).grown hgr ?_, fun g hg hvg => ?_, ?_⟩
  · cases hvb : v.ownBlock with
    | none => exact .inl rfl
    | some g => exact .inr (fun e => hap g e.symm hvb)
  · rcases hsf with h | h
    · exact hap g (h ▸ hg) hvg
    · have h1 := h g hg
      have h2 := (World.ownsRow.lt hv g hvg).2
      rw [World.size_alloc] at h1
      omega
  · exact (hb.alloc hb.size o).grown hgr (by rw [World.size_alloc]; have := hb.size; omega) (fun k hk => by have := (World.ownsRow.lt hu k hk).1; omega)

/-- What one of the lists that are no sessions is. -/
structure BadS where
  A : Option Addr
  n : Nat
  c : Nat
  l : List (Int × Int)
def BadOk (W : World) (B : Nat) (q : BadS) : Prop := q.l.length = q.n ∧ (q.A = none → q.c = 0) ∧ q.n ≤ 4001 ∧ srtB q.l = false ∧ Rd senc 2 W B q.A q.l
theorem badOk_of {W : World} {A : Option Addr} {n c : Nat} {l : List (Int × Int)} (h1 : l.length = n) (h2 : A = none → c = 0) (h3 : n ≤ 4001) (h4 : srtB l = false) (h5 : Rd senc 2 W W.heap.size A l) : BadOk W W.heap.size ⟨A, n, c, l⟩ := ⟨h1, h2, h3, h4, h5⟩

theorem BadOk.grow {W W' : World} {q : BadS} (h : BadOk W W.heap.size q) (hb : Below W.heap.size W W') : BadOk W' W'.heap.size q := ⟨h.1, h.2.1, h.2.2.1, h.2.2.2.1, rd_grown h.2.2.2.2 hb⟩
theorem sadd_lit {l P : List (Int × Int)} {t g p : Int} (h : sadd l t g = (P, p)) (A : Option Addr) (c n m : Nat) (W : World) (hn : l.length = n) (hm : P.length = m) (hz : A = none → c = 0) (hn2 : n ≤ 5000) (hr : Rd senc 2 W W.heap.size A l) :
    Calls Try.prog 62 #[.slice A n c, .int .i64 t, .int .i64 g] W fun e W' => ∃ A' c', e = .returned (.tuple #[.slice A' m c', .int .i64 p]) ∧ (A' = none → c' = 0) ∧ Rd senc 2 W' W'.heap.size A' P ∧ Below W.heap.size W W' := by
  have h1 := sadd_any A c n l t g W hn hz (by omega) hr
  rw [h] at h1
  refine h1.mono ?_
  rintro e W' ⟨v, rfl, own, hb⟩
  obtain ⟨A', c', rfl, -, z⟩ := own_shape_z own hm
  exact ⟨A', c', rfl, z, Own.rd senc_len own, hb⟩
theorem sof_litc {l : List Int} {P : List (Int × Int)} {g p : Int} (h : sof l g = (P, p)) (A : Option Addr) (c n m : Nat) (W : World) (hn : l.length = n) (hm : P.length = m) (hr : Rd ienc 1 W W.heap.size A l) :
    Calls Try.prog 59 #[.slice A n c, .int .i64 g] W fun e W' => ∃ A' c', e = .returned (.tuple #[.slice A' m c', .int .i64 p]) ∧ (A' = none → c' = 0) ∧ Rd senc 2 W' W'.heap.size A' P ∧ Below W.heap.size W W' := by
  have h1 := sof_any A c n l g W hn hr
  rw [h] at h1
  refine h1.mono ?_
  rintro e W' ⟨v, rfl, own, hb⟩
  obtain ⟨A', c', rfl, -, z⟩ := own_shape_z own hm
  exact ⟨A', c', rfl, z, Own.rd senc_len own, hb⟩
theorem smerge_lit {l k P : List (Int × Int)} {p : Int} (h : smerge l k = (P, p)) (A B : Option Addr) (c d n n' m : Nat) (W : World) (hn : l.length = n) (hn' : k.length = n') (hm : P.length = m) (hz : A = none → c = 0) (hz' : B = none → d = 0) (hn2 : n ≤ 5000) (hn3 : n' ≤ 5000) (hr : Rd senc 2 W W.heap.size A l) (hr' : Rd senc 2 W W.heap.size B k) :
    Calls Try.prog 67 #[.slice A n c, .slice B n' d] W fun e W' => ∃ A' c', e = .returned (.tuple #[.slice A' m c', .int .i64 p]) ∧ (A' = none → c' = 0) ∧ Rd senc 2 W' W'.heap.size A' P ∧ Below W.heap.size W W' := by
  have h1 := smerge_any A B c d n n' l k W hn hn' hz hz' (by omega) (by omega) hr hr'
  rw [h] at h1
  refine h1.mono ?_
  rintro e W' ⟨v, rfl, own, hb⟩
  obtain ⟨A', c', rfl, -, z⟩ := own_shape_z own hm
  exact ⟨A', c', rfl, z, Own.rd senc_len own, hb⟩

set_option maxHeartbeats 16000000 in
set_option maxRecDepth 100000 in
theorem sessionNames_walk (w : World) : Calls Try.prog 17 #[] w fun r w' => r = .returned (.bool true) ∧ Below w.heap.size w w' := by
  obtain ⟨i0, hi0, hz0, hz1, hz2⟩ := info_parts sp_info
  obtain ⟨j0, hj0, hy0, hy1, hy2⟩ := info_parts i64_info
  go_enter Try.func17, Try.ntmps17
  go_wp2_with fail
  go_loopw [1, 2, 3] (fun u v i wr => ∃ k : Nat, k ≤ 4001 ∧ i = .int .i64 k ∧ Own senc 2 wr w.heap.size 32 u (manyS k) ∧ Own ienc 1 wr w.heap.size 2 v (evens k) ∧ (∀ g, u.ownBlock = some g → v.ownBlock ≠ some g) ∧ Below w.heap.size w wr) (fun _ _ i _ => 4001 - (intOf i).toNat)
  case atStart => exact ⟨0, Nat.zero_le _, rfl, Own.nil _ _ _, Own.nil _ _ _, (by intro g h; cases h), Below.refl _ _⟩
  case round =>
    obtain ⟨k, hk, rfl, hou, hov, hap, hb⟩ := hrel
    have HAP := Lib.hid hap
    clear hap
    by_cases h1 : k < 4001
    · have d1 : decide ((k : Int) < 4001) = true := by simp; omega
      have d1' : decide (k < 4001) = true := by simp [h1]
      have e1 : IntKind.i64.wrap ((k : Int) + 1) = (k : Int) + 1 := IntWalk.i64_in _ (by omega)
      have e2 : IntKind.i64.wrap (2 * (k : Int)) = 2 * (k : Int) := IntWalk.i64_in _ (by omega)
      have e3 : IntKind.i64.wrap (2 * (k : Int) + 1) = 2 * (k : Int) + 1 := IntWalk.i64_in _ (by omega)
      go_wp2_with (first
        | (at_builtin; refine wpList_append_fs rfl (.tmp 40) (.tmp 47) 103 rfl w.heap.size 32 i0 (.agg #[.int .i64 0, .int .i64 0]) 2 16 Try.underlying103 hi0 hz0 hz1 hz2 rfl (by decide) senc senc_len _ (manyS k) (2 * (k : Int), 2 * (k : Int) + 1) rfl (hou.alloc (.cells #[.int .i64 (2 * (k : Int)), .int .i64 (2 * (k : Int) + 1)] 32)) ⟨wr.heap.size, 0, none⟩ 1 rfl (sp_new _ (2 * (k : Int), 2 * (k : Int) + 1) 32 wr.heap.size rfl) (senc_one _) (by unfold maxLen; rw [manyS_len]; omega) (by rw [manyS_len]; omega) (by have := hb.size; rw [World.size_alloc]; omega) ?_; intro u' w7 own7 hgr7 hsf; obtain ⟨hov7, hap7, hb7⟩ := two_app hb hou hov HAP.out hgr7 hsf; rw [← manyS_succ] at own7; have HAP7 := Lib.hid hap7; clear hgr7 hsf hap7 hou hov hb)
        | (at_builtin; refine wpList_append_fs rfl (.tmp 49) (.tmp 52) 61 rfl w.heap.size 2 j0 (.int .i64 0) 1 8 Try.underlying61 hj0 hy0 hy1 hy2 rfl (by decide) ienc ienc_len _ (evens k) (2 * (k : Int)) rfl (hov7.alloc (.cells #[.int .i64 (2 * (k : Int))] 2)) ⟨w7.heap.size, 0, none⟩ 1 rfl (i64_new _ (2 * (k : Int)) 2 w7.heap.size rfl) (ienc_one _) (by unfold maxLen; rw [evens_len]; omega) (by rw [evens_len]; omega) (by have := hb7.size; rw [World.size_alloc]; omega) ?_; intro v' w8 own8 hgr8 hsf))
      obtain ⟨hou8, hap8, hb8⟩ := two_app hb7 hov7 own7 (fun g h1 h2 => HAP7.out g h2 h1) hgr8 hsf
      rw [← evens_succ] at own8
      go_wp2
      go_roundw
      case rel => exact ⟨k + 1, by omega, by go_num, hou8, own8, fun g h1 h2 => hap8 g h2 h1, hb8⟩
      case measure => simp [intOf]; omega
    · obtain rfl : k = 4001 := by omega
      obtain ⟨A0, c0, rfl, hc0, z0⟩ := own_shape_z hou (manyS_len 4001)
      obtain ⟨T0, t0, rfl, ht0, zt0⟩ := own_shape_z hov (evens_len 4001)
      have hL : Loc wr [] := trivial
      have rdM := Own.rd senc_len hou
      have rdT := Own.rd ienc_len hov
      clear hou hov HAP h1 hk
      go_wp2_with fail
      go_at_call 69
      refine (sspans_any _ _ 2 1 [(5, 5)] _ rfl rfl (by omega) (rd_lit wr [5, 5] _ _ rfl)).mono ?_
      rintro r b1 ⟨v1, rfl, own1, hb1⟩
      obtain ⟨A1, c1, rfl, -, z1⟩ := own_shape_z own1 (n := 1) rfl
      go_wp2_with fail
      go_at_call 69
      refine (sspans_any _ _ 2 1 [(6, 5)] _ rfl rfl (by omega) (rd_lit b1 [6, 5] _ _ rfl)).mono ?_
      rintro r b2 ⟨v2, rfl, own2, hb2⟩
      obtain ⟨A2, c2, rfl, -, z2⟩ := own_shape_z own2 (n := 1) rfl
      go_wp2_with fail
      go_at_call 69
      refine (sspans_any _ _ 4 2 [(1, 5), (4, 6)] _ rfl rfl (by omega) (rd_lit b2 [1, 5, 4, 6] _ _ rfl)).mono ?_
      rintro r b3 ⟨v3, rfl, own3, hb3⟩
      obtain ⟨A3, c3, rfl, -, z3⟩ := own_shape_z own3 (n := 2) rfl
      go_wp2_with fail
      go_at_call 69
      refine (sspans_any _ _ 4 2 [(9, 10), (1, 2)] _ rfl rfl (by omega) (rd_lit b3 [9, 10, 1, 2] _ _ rfl)).mono ?_
      rintro r b4 ⟨v4, rfl, own4, hb4⟩
      obtain ⟨A4, c4, rfl, -, z4⟩ := own_shape_z own4 (n := 2) rfl
      go_wp2_with fail
      go_at_call 69
      refine (sspans_any _ _ 2 1 [(-1099511627777, 0)] _ rfl rfl (by omega) (rd_lit b4 [-1099511627777, 0] _ _ rfl)).mono ?_
      rintro r b5 ⟨v5, rfl, own5, hb5⟩
      obtain ⟨A5, c5, rfl, -, z5⟩ := own_shape_z own5 (n := 1) rfl
      go_wp2_with fail
      go_at_call 69
      refine (sspans_any _ _ 2 1 [(1099511627777, 1099511627778)] _ rfl rfl (by omega) (rd_lit b5 [1099511627777, 1099511627778] _ _ rfl)).mono ?_
      rintro r b6 ⟨v6, rfl, own6, hb6⟩
      obtain ⟨A6, c6, rfl, -, z6⟩ := own_shape_z own6 (n := 1) rfl
      go_wp2_with fail
      go_at_call 69
      refine (sspans_any _ _ 2 1 [(1099511627776, 1100585369601)] _ rfl rfl (by omega) (rd_lit b6 [1099511627776, 1100585369601] _ _ rfl)).mono ?_
      rintro r b7 ⟨v7, rfl, own7, hb7⟩
      obtain ⟨A7, c7, rfl, -, z7⟩ := own_shape_z own7 (n := 1) rfl
      have hk7 : Below b7.heap.size b7 b7 := Below.refl _ _
      have hk6 : Below b6.heap.size b6 b7 := below_then (below_new (Below.refl _ _) _) (below_then hb7 hk7)
      have hk5 : Below b5.heap.size b5 b7 := below_then (below_new (Below.refl _ _) _) (below_then hb6 hk6)
      have hk4 : Below b4.heap.size b4 b7 := below_then (below_new (Below.refl _ _) _) (below_then hb5 hk5)
      have hk3 : Below b3.heap.size b3 b7 := below_then (below_new (Below.refl _ _) _) (below_then hb4 hk4)
      have hk2 : Below b2.heap.size b2 b7 := below_then (below_new (Below.refl _ _) _) (below_then hb3 hk3)
      have hk1 : Below b1.heap.size b1 b7 := below_then (below_new (Below.refl _ _) _) (below_then hb2 hk2)
      have hbb : Below wr.heap.size wr b7 := below_then (below_new (Below.refl _ _) _) (below_then hb1 hk1)
      have q0 := badOk_of (manyS_len 4001) z0 (by omega) bad_0 (rd_grown rdM hbb)
      have q1 := badOk_of rfl z1 (by decide) bad_1 (rd_grown (Own.rd senc_len own1) hk1)
      have q2 := badOk_of rfl z2 (by decide) bad_2 (rd_grown (Own.rd senc_len own2) hk2)
      have q3 := badOk_of rfl z3 (by decide) bad_3 (rd_grown (Own.rd senc_len own3) hk3)
      have q4 := badOk_of rfl z4 (by decide) bad_4 (rd_grown (Own.rd senc_len own4) hk4)
      have q5 := badOk_of rfl z5 (by decide) bad_5 (rd_grown (Own.rd senc_len own5) hk5)
      have q6 := badOk_of rfl z6 (by decide) bad_6 (rd_grown (Own.rd senc_len own6) hk6)
      have q7 := badOk_of rfl z7 (by decide) bad_7 (rd_grown (Own.rd senc_len own7) hk7)
      have hb07 : Below w.heap.size w b7 := below_then hb hbb
      have rdM7 := rd_grown rdM hbb
      have rdT7 := rd_grown rdT hbb
      clear rdM rdT hbb hb hL own1 hb1 hk1 own2 hb2 hk2 own3 hb3 hk3 own4 hb4 hk4 own5 hb5 hk5 own6 hb6 hk6 own7 hb7 hk7
      go_wp2_with fail
      obtain ⟨bs, hbs⟩ : ∃ bs : List BadS, bs = [⟨A0, 4001, c0, manyS 4001⟩, ⟨A1, 1, c1, [(5, 5)]⟩, ⟨A2, 1, c2, [(6, 5)]⟩, ⟨A3, 2, c3, [(1, 5), (4, 6)]⟩, ⟨A4, 2, c4, [(9, 10), (1, 2)]⟩, ⟨A5, 1, c5, [(-1099511627777, 0)]⟩, ⟨A6, 1, c6, [(1099511627777, 1099511627778)]⟩, ⟨A7, 1, c7, [(1099511627776, 1100585369601)]⟩] := ⟨_, rfl⟩
      have hLb := Loc.new (Loc.nil b7) (bs.map fun q => Value.slice q.A q.n q.c) 103
      have hbl : bs.length = 8 := by rw [hbs]; rfl
      have hall : ∀ q ∈ bs, BadOk b7 b7.heap.size q := by
        rw [hbs]
        intro q hq
        simp only [List.mem_cons, List.not_mem_nil, or_false] at hq
        rcases hq with rfl | rfl | rfl | rfl | rfl | rfl | rfl | rfl
        all_goals assumption
      have hw8 : b7.alloc (.cells #[.slice A0 4001 c0, .slice A1 1 c1, .slice A2 1 c2, .slice A3 2 c3, .slice A4 2 c4, .slice A5 1 c5, .slice A6 1 c6, .slice A7 1 c7] 103) = b7.alloc (.cells (bs.map fun q => Value.slice q.A q.n q.c).toArray 103) := by rw [hbs]; rfl
      rw [hw8]
      obtain ⟨w2, hw2⟩ : ∃ w2, b7.alloc (.cells (bs.map fun q => Value.slice q.A q.n q.c).toArray 103) = w2 := ⟨_, rfl⟩
      have hb72 : Below b7.heap.size b7 w2 := by rw [← hw2]; exact below_new (Below.refl _ _) _
      rw [hw2] at hLb ⊢
      obtain ⟨gB, hgB⟩ : ∃ g, g = b7.heap.size := ⟨_, rfl⟩
      rw [← hgB] at hLb ⊢
      have hall2 : ∀ q ∈ bs, BadOk w2 w2.heap.size q := fun q hq => (hall q hq).grow hb72
      have hb02 := below_then hb07 hb72
      have rdM2 := rd_grown rdM7 hb72
      have rdT2 := rd_grown rdT7 hb72
      have HBL := Lib.hid hbl; have HALL := Lib.hid hall2
      clear hbs hbl hall hall2 hw8 hw2 hgB hb72 hb07 rdM7 rdT7 q0 q1 q2 q3 q4 q5 q6 q7 z1 z2 z3 z4 z5 z6 z7
      go_loopw [5] (fun i wr => ∃ k : Nat, k ≤ 8 ∧ i = .int .i64 k ∧ Below w2.heap.size w2 wr) (fun i _ => 8 - (intOf i).toNat)
      case atStart => exact ⟨0, Nat.zero_le _, rfl, Below.refl _ _⟩
      case round =>
        obtain ⟨k, hk, rfl, hbr⟩ := hrel
        by_cases h1 : k < 8
        · obtain ⟨q, hq⟩ : ∃ q, bs[k]? = some q := ⟨_, List.getElem?_eq_getElem (by rw [HBL.out]; exact h1)⟩
          have f0 := hLb.2.1 k
          rw [List.getElem?_map, hq] at f0
          have hgb := hLb.1
          obtain ⟨y1, y2, y3, y4, y5⟩ := HALL.out q (List.mem_of_getElem? hq)
          obtain ⟨qA, qn, qc, ql⟩ := q
          dsimp only [Option.map_some] at f0 y1 y2 y3 y4 y5
          have Y1 := Lib.hid y1
          have Y2 := Lib.hid y2
          have Y4 := Lib.hid y4
          clear hq y1 y2 y4
          have f1 : wr.cell? ⟨gB, k, none⟩ = some (.slice qA qn qc) := (hbr.cell (p := ⟨gB, k, none⟩) hgb).trans f0
          have d1 : decide ((k : Int) < 8) = true := by simp; omega
          have d1' : decide (k < 8) = true := by simp [h1]
          have i1 : (0 : Int) ≤ (k : Int) := by omega
          have i2 : (k : Int) < 8 := by omega
          have e1 : IntKind.i64.wrap ((k : Int) + 1) = (k : Int) + 1 := IntWalk.i64_in _ (by omega)
          have hgr : gB < wr.heap.size := Nat.lt_of_lt_of_le hgb hbr.size
          clear f0
          go_wp2_with fail
          go_at_call 62
          refine (sadd_lit (sadd_bad Y4.out) qA qc qn 0 _ Y1.out rfl Y2.out (by omega) (rd_grown y5 (by repeat (first | with_reducible exact Below.refl _ _ | with_reducible assumption | (with_reducible exact Env.below (by assumption)) | (with_reducible refine below_new ?_ _) | (with_reducible refine below_drew ?_) | (with_reducible refine below_drewN ?_ _) | (with_reducible refine below_put ?_ ?_ _; rotate_left 1; (dsimp only; omega)) | (with_reducible refine below_then ?_ (by assumption)))))).mono ?_
          rintro r x1 ⟨P1, p1, rfl, -, -, hx1⟩
          have f2 : x1.cell? ⟨gB, k, none⟩ = some (.slice qA qn qc) := (hx1.cell (p := ⟨gB, k, none⟩) hgr).trans f1
          go_wp2_with fail
          go_at_call 67
          refine (smerge_lit (smerge_bad2 Y4.out) none qA 0 qc 0 qn 0 _ rfl Y1.out rfl (fun _ => rfl) Y2.out (by omega) (by omega) Rd.nil (rd_grown y5 (by repeat (first | with_reducible exact Below.refl _ _ | with_reducible assumption | (with_reducible exact Env.below (by assumption)) | (with_reducible refine below_new ?_ _) | (with_reducible refine below_drew ?_) | (with_reducible refine below_drewN ?_ _) | (with_reducible refine below_put ?_ ?_ _; rotate_left 1; (dsimp only; omega)) | (with_reducible refine below_then ?_ (by assumption)))))).mono ?_
          rintro r x2 ⟨P2, p2, rfl, -, -, hx2⟩
          have f3 : x2.cell? ⟨gB, k, none⟩ = some (.slice qA qn qc) := (hx2.cell (p := ⟨gB, k, none⟩) (Nat.lt_of_lt_of_le hgr hx1.size)).trans f2
          go_wp2_with fail
          go_at_call 67
          refine (smerge_lit (smerge_bad1 Y4.out) qA none qc 0 qn 0 0 _ Y1.out rfl rfl Y2.out (fun _ => rfl) (by omega) (by omega) (rd_grown y5 (by repeat (first | with_reducible exact Below.refl _ _ | with_reducible assumption | (with_reducible exact Env.below (by assumption)) | (with_reducible refine below_new ?_ _) | (with_reducible refine below_drew ?_) | (with_reducible refine below_drewN ?_ _) | (with_reducible refine below_put ?_ ?_ _; rotate_left 1; (dsimp only; omega)) | (with_reducible refine below_then ?_ (by assumption))))) Rd.nil).mono ?_
          rintro r x3 ⟨P3, p3, rfl, -, -, hx3⟩
          have hbr3 : Below w2.heap.size w2 x3 := (by repeat (first | with_reducible exact Below.refl _ _ | with_reducible assumption | (with_reducible exact Env.below (by assumption)) | (with_reducible refine below_new ?_ _) | (with_reducible refine below_drew ?_) | (with_reducible refine below_drewN ?_ _) | (with_reducible refine below_put ?_ ?_ _; rotate_left 1; (dsimp only; omega)) | (with_reducible refine below_then ?_ (by assumption))))
          go_wp2
          go_roundw
          case rel => exact ⟨k + 1, by omega, by go_num, hbr3⟩
          case measure => simp [intOf]; omega
        · obtain rfl : k = 8 := by omega
          have hb0r : Below w.heap.size w wr := below_then hb02 hbr
          have rdM3 := rd_grown rdM2 hbr
          have rdT3 := rd_grown rdT2 hbr
          have m4 := rd_pref rdM3 4000
          have t4 := rd_pref rdT3 4000
          rw [manyS_take _ _ (by omega)] at m4
          rw [evens_take _ _ (by omega)] at t4
          clear hb02 hbr rdM2 rdT2 hLb rdM3 h1 hk
          go_wp2_with fail
          go_at_call 62
          refine (sadd_lit n_a none 0 0 0 _ rfl rfl (fun _ => rfl) (by omega) Rd.nil).mono ?_
          rintro r u1 ⟨B1, d1, rfl, zz1, rr1, hu1⟩
          go_wp2_with fail
          go_at_call 62
          refine (sadd_lit n_b none 0 0 0 _ rfl rfl (fun _ => rfl) (by omega) Rd.nil).mono ?_
          rintro r u2 ⟨B2, d2, rfl, zz2, rr2, hu2⟩
          go_wp2_with fail
          go_at_call 62
          refine (sadd_lit n_c A0 c0 4000 0 _ (manyS_len _) rfl z0 (by omega) (rd_grown m4 (by repeat (first | with_reducible exact Below.refl _ _ | with_reducible assumption | (with_reducible exact Env.below (by assumption)) | (with_reducible refine below_new ?_ _) | (with_reducible refine below_drew ?_) | (with_reducible refine below_drewN ?_ _) | (with_reducible refine below_put ?_ ?_ _; rotate_left 1; (dsimp only; omega)) | (with_reducible refine below_then ?_ (by assumption)))))).mono ?_
          rintro r u3 ⟨B3, d3, rfl, zz3, rr3, hu3⟩
          go_wp2_with fail
          go_at_call 62
          refine (sadd_lit n_d A0 c0 4000 4000 _ (manyS_len _) (manyS_len _) z0 (by omega) (rd_grown m4 (by repeat (first | with_reducible exact Below.refl _ _ | with_reducible assumption | (with_reducible exact Env.below (by assumption)) | (with_reducible refine below_new ?_ _) | (with_reducible refine below_drew ?_) | (with_reducible refine below_drewN ?_ _) | (with_reducible refine below_put ?_ ?_ _; rotate_left 1; (dsimp only; omega)) | (with_reducible refine below_then ?_ (by assumption)))))).mono ?_
          rintro r u4 ⟨B4, d4, rfl, zz4, rr4, hu4⟩
          go_wp2_with fail
          go_at_call 59
          refine (sof_litc n_e T0 t0 4001 0 _ (evens_len _) rfl (rd_grown rdT3 (by repeat (first | with_reducible exact Below.refl _ _ | with_reducible assumption | (with_reducible exact Env.below (by assumption)) | (with_reducible refine below_new ?_ _) | (with_reducible refine below_drew ?_) | (with_reducible refine below_drewN ?_ _) | (with_reducible refine below_put ?_ ?_ _; rotate_left 1; (dsimp only; omega)) | (with_reducible refine below_then ?_ (by assumption)))))).mono ?_
          rintro r u5 ⟨B5, d5, rfl, zz5, rr5, hu5⟩
          go_wp2_with fail
          go_at_call 59
          refine (sof_litc n_f T0 t0 4001 0 _ (evens_len _) rfl (rd_grown rdT3 (by repeat (first | with_reducible exact Below.refl _ _ | with_reducible assumption | (with_reducible exact Env.below (by assumption)) | (with_reducible refine below_new ?_ _) | (with_reducible refine below_drew ?_) | (with_reducible refine below_drewN ?_ _) | (with_reducible refine below_put ?_ ?_ _; rotate_left 1; (dsimp only; omega)) | (with_reducible refine below_then ?_ (by assumption)))))).mono ?_
          rintro r u6 ⟨B6, d6, rfl, zz6, rr6, hu6⟩
          go_wp2_with fail
          go_at_call 59
          refine (sof_litc n_g _ _ 2 0 _ rfl rfl (rd_lit u6 [0, -1099511627777] _ _ rfl)).mono ?_
          rintro r u7 ⟨B7, d7, rfl, zz7, rr7, hu7⟩
          go_wp2_with fail
          go_at_call 59
          refine (sof_litc n_h T0 t0 4000 4000 _ (evens_len _) n_h_len (rd_grown t4 (by repeat (first | with_reducible exact Below.refl _ _ | with_reducible assumption | (with_reducible exact Env.below (by assumption)) | (with_reducible refine below_new ?_ _) | (with_reducible refine below_drew ?_) | (with_reducible refine below_drewN ?_ _) | (with_reducible refine below_put ?_ ?_ _; rotate_left 1; (dsimp only; omega)) | (with_reducible refine below_then ?_ (by assumption)))))).mono ?_
          rintro r u8 ⟨B8, d8, rfl, zz8, rr8, hu8⟩
          go_wp2_with fail
          go_at_call 59
          refine (sof_litc n_i T0 t0 4000 1 _ (evens_len _) rfl (rd_grown t4 (by repeat (first | with_reducible exact Below.refl _ _ | with_reducible assumption | (with_reducible exact Env.below (by assumption)) | (with_reducible refine below_new ?_ _) | (with_reducible refine below_drew ?_) | (with_reducible refine below_drewN ?_ _) | (with_reducible refine below_put ?_ ?_ _; rotate_left 1; (dsimp only; omega)) | (with_reducible refine below_then ?_ (by assumption)))))).mono ?_
          rintro r u9 ⟨B9, d9, rfl, zz9, rr9, hu9⟩
          go_wp2_with fail
          have hc4 : (4000 : Int) ≤ (c0 : Int) := by omega
          have hc4' : 4000 ≤ c0 := by omega
          have hE9 : Env u9 [] u9 := ⟨Below.refl _ _, trivial⟩
          refine wp_region_held_drew (S := Env u9 []) (by kernel_rfl) (by (first | assumption | exact Env.step (by assumption) (by assumption) | exact Env.old (by assumption) _ | exact Env.drew hE | exact hE | exact Env.drew (by assumption) | exact Env.drew (Env.old (by assumption) _) | ((repeat first | refine Env.far0 ?_ (by assumption) _ | refine Env.far1 ?_ (by assumption) _ | refine Env.farA ?_ (by assumption) _); assumption))) (fun hHeld => ?_)
          refine hTake 0 (by kernel_rfl) (by kernel_rfl) (by kernel_rfl) (by decide) (by assumption) ?_; (intro oi hoi; simp only [List.getElem?_toArray, List.getElem?_cons_zero] at hoi; obtain rfl := Option.some.inj hoi; clear hoi); refine ⟨rfl, ?_⟩; apply Exists.intro; refine ⟨?_, fun _ _ _ h => h, ?_⟩; (intro w hSw; (try dsimp only at hSw); go_simp; (try with_reducible rfl)); (try simp only [Act.put, List.setIfInBounds_toArray, List.set_cons_zero, List.set_cons_succ]); refine hTake 1 (by kernel_rfl) (by kernel_rfl) (by kernel_rfl) (by decide) (by assumption) ?_; (intro oi hoi; simp only [List.getElem?_toArray, List.getElem?_cons_succ, List.getElem?_cons_zero] at hoi; obtain rfl := Option.some.inj hoi; clear hoi); refine ⟨rfl, ?_⟩; apply Exists.intro; refine ⟨?_, fun _ _ _ h => h, ?_⟩; (intro w hSw; (try dsimp only at hSw); go_simp; (try with_reducible rfl)); (try simp only [Act.put, List.setIfInBounds_toArray, List.set_cons_zero, List.set_cons_succ])
          refine hOnly 2 (by kernel_rfl) (by decide) ?_; (intro oi hoi; simp only [List.getElem?_toArray, List.getElem?_cons_succ, List.getElem?_cons_zero] at hoi; obtain rfl := Option.some.inj hoi; clear hoi); intro K hK; go_simp
          (refine hK.out _ _ (by (first | assumption | exact Env.step (by assumption) (by assumption) | exact Env.old (by assumption) _ | exact Env.drew hE | exact hE | exact Env.drew (by assumption) | exact Env.drew (Env.old (by assumption) _) | ((repeat first | refine Env.far0 ?_ (by assumption) _ | refine Env.far1 ?_ (by assumption) _ | refine Env.farA ?_ (by assumption) _); assumption))) (fun hHeld => ?_); clear hK K; (try simp only [Act.put, List.setIfInBounds_toArray, List.set_cons_zero, List.set_cons_succ]))
          refine hOnly 3 (by kernel_rfl) (by decide) ?_; (intro oi hoi; simp only [List.getElem?_toArray, List.getElem?_cons_succ, List.getElem?_cons_zero] at hoi; obtain rfl := Option.some.inj hoi; clear hoi); intro K hK; go_simp
          go_at_call 69
          refine (sspans_any _ _ 2 1 [(-5, -4)] _ rfl rfl (by omega) (Rd.drew (rd_lit u9 [-5, -4] _ _ rfl))).mono ?_
          rintro r u10 ⟨vs, rfl, owns, hu10⟩
          obtain ⟨Bs, ds, rfl, -, zs⟩ := own_shape_z owns (n := 1) rfl
          have hEhu10 := Env.step hu10 (by assumption); (try (have hqhu10 := (by with_reducible first | exact Loc.below hu10 (Loc.new (Loc.nil _) _ _) | exact Loc.below hu10 (Loc.drew (Loc.new (Loc.nil _) _ _)) | exact Loc.below hu10 (by assumption : Loc _ [_])); (repeat rw [World.size_drew] at hqhu10); (repeat rw [World.size_alloc] at hqhu10); have hrhu10 := hqhu10; (repeat unfold Loc at hrhu10)))
          (refine hK.out _ _ (by (first | assumption | exact Env.step (by assumption) (by assumption) | exact Env.old (by assumption) _ | exact Env.drew hE | exact hE | exact Env.drew (by assumption) | exact Env.drew (Env.old (by assumption) _) | ((repeat first | refine Env.far0 ?_ (by assumption) _ | refine Env.far1 ?_ (by assumption) _ | refine Env.farA ?_ (by assumption) _); assumption))) (fun hHeld => ?_); clear hK K; (try simp only [Act.put, List.setIfInBounds_toArray, List.set_cons_zero, List.set_cons_succ]))
          refine hOnly 4 (by kernel_rfl) (by decide) ?_; (intro oi hoi; simp only [List.getElem?_toArray, List.getElem?_cons_succ, List.getElem?_cons_zero] at hoi; obtain rfl := Option.some.inj hoi; clear hoi); intro K hK; go_simp
          go_at_call 67
          refine (smerge_lit n_j A0 Bs c0 ds 4000 1 0 _ (manyS_len _) rfl rfl z0 zs (by omega) (by omega) (rd_grown m4 (by repeat (first | with_reducible exact Below.refl _ _ | with_reducible assumption | (with_reducible exact Env.below (by assumption)) | (with_reducible refine below_new ?_ _) | (with_reducible refine below_drew ?_) | (with_reducible refine below_drewN ?_ _) | (with_reducible refine below_put ?_ ?_ _; rotate_left 1; (dsimp only; omega)) | (with_reducible refine below_then ?_ (by assumption))))) (Own.rd senc_len owns)).mono ?_
          rintro r u11 ⟨B11, d11, rfl, zz11, rr11, hu11⟩
          have hEhu11 := Env.step hu11 (by assumption); (try (have hqhu11 := (by with_reducible first | exact Loc.below hu11 (Loc.new (Loc.nil _) _ _) | exact Loc.below hu11 (Loc.drew (Loc.new (Loc.nil _) _ _)) | exact Loc.below hu11 (by assumption : Loc _ [_])); (repeat rw [World.size_drew] at hqhu11); (repeat rw [World.size_alloc] at hqhu11); have hrhu11 := hqhu11; (repeat unfold Loc at hrhu11)))
          (refine hK.out _ _ (by (first | assumption | exact Env.step (by assumption) (by assumption) | exact Env.old (by assumption) _ | exact Env.drew hE | exact hE | exact Env.drew (by assumption) | exact Env.drew (Env.old (by assumption) _) | ((repeat first | refine Env.far0 ?_ (by assumption) _ | refine Env.far1 ?_ (by assumption) _ | refine Env.farA ?_ (by assumption) _); assumption))) (fun hHeld => ?_); clear hK K; (try simp only [Act.put, List.setIfInBounds_toArray, List.set_cons_zero, List.set_cons_succ]))
          refine hTake 5 (by kernel_rfl) (by kernel_rfl) (by kernel_rfl) (by decide) (by assumption) ?_; (intro oi hoi; simp only [List.getElem?_toArray, List.getElem?_cons_succ, List.getElem?_cons_zero] at hoi; obtain rfl := Option.some.inj hoi; clear hoi); refine ⟨rfl, ?_⟩; apply Exists.intro; refine ⟨?_, fun _ _ _ h => h, ?_⟩; (intro w hSw; (try dsimp only at hSw); go_simp; (try with_reducible rfl)); (try simp only [Act.put, List.setIfInBounds_toArray, List.set_cons_zero, List.set_cons_succ]); refine hTake 6 (by kernel_rfl) (by kernel_rfl) (by kernel_rfl) (by decide) (by assumption) ?_; (intro oi hoi; simp only [List.getElem?_toArray, List.getElem?_cons_succ, List.getElem?_cons_zero] at hoi; obtain rfl := Option.some.inj hoi; clear hoi); refine ⟨rfl, ?_⟩; apply Exists.intro; refine ⟨?_, fun _ _ _ h => h, ?_⟩; (intro w hSw; (try dsimp only at hSw); go_simp; (try with_reducible rfl)); (try simp only [Act.put, List.setIfInBounds_toArray, List.set_cons_zero, List.set_cons_succ]); refine hTake 7 (by kernel_rfl) (by kernel_rfl) (by kernel_rfl) (by decide) (by assumption) ?_; (intro oi hoi; simp only [List.getElem?_toArray, List.getElem?_cons_succ, List.getElem?_cons_zero] at hoi; obtain rfl := Option.some.inj hoi; clear hoi); refine ⟨rfl, ?_⟩; apply Exists.intro; refine ⟨?_, fun _ _ _ h => h, ?_⟩; (intro w hSw; (try dsimp only at hSw); go_simp; (try with_reducible rfl)); (try simp only [Act.put, List.setIfInBounds_toArray, List.set_cons_zero, List.set_cons_succ]); refine hTake 8 (by kernel_rfl) (by kernel_rfl) (by kernel_rfl) (by decide) (by assumption) ?_; (intro oi hoi; simp only [List.getElem?_toArray, List.getElem?_cons_succ, List.getElem?_cons_zero] at hoi; obtain rfl := Option.some.inj hoi; clear hoi); refine ⟨rfl, ?_⟩; apply Exists.intro; refine ⟨?_, fun _ _ _ h => h, ?_⟩; (intro w hSw; (try dsimp only at hSw); go_simp; (try with_reducible rfl)); (try simp only [Act.put, List.setIfInBounds_toArray, List.set_cons_zero, List.set_cons_succ]); refine hTake 9 (by kernel_rfl) (by kernel_rfl) (by kernel_rfl) (by decide) (by assumption) ?_; (intro oi hoi; simp only [List.getElem?_toArray, List.getElem?_cons_succ, List.getElem?_cons_zero] at hoi; obtain rfl := Option.some.inj hoi; clear hoi); refine ⟨rfl, ?_⟩; apply Exists.intro; refine ⟨?_, fun _ _ _ h => h, ?_⟩; (intro w hSw; (try dsimp only at hSw); go_simp; (try with_reducible rfl)); (try simp only [Act.put, List.setIfInBounds_toArray, List.set_cons_zero, List.set_cons_succ])
          refine wpAnyH_done (by kernel_rfl) ?_ _
          go_wp2_with fail
          go_at_call 67
          refine (smerge_lit n_k none none 0 0 0 0 0 _ rfl rfl rfl (fun _ => rfl) (fun _ => rfl) (by omega) (by omega) Rd.nil Rd.nil).mono ?_
          rintro r u12 ⟨B12, d12, rfl, zz12, rr12, hu12⟩
          go_wp2_with fail
          go_at_call 62
          refine (sadd_lit n_l none 0 0 1 _ rfl rfl (fun _ => rfl) (by omega) Rd.nil).mono ?_
          rintro r u13 ⟨B13, d13, rfl, zz13, rr13, hu13⟩
          go_wp2_with fail
          go_at_call 57
          refine (salive_any _).mono ?_
          rintro r u14 ⟨rfl, hu14⟩
          go_wp2_with fail
          go_at_call 63
          refine (ssame_yes _ _ _ _ _ _ (manyS 4000) (manyS 4000) _ (rd_grown rr4 (by repeat (first | with_reducible exact Below.refl _ _ | with_reducible assumption | (with_reducible exact Env.below (by assumption)) | (with_reducible refine below_new ?_ _) | (with_reducible refine below_drew ?_) | (with_reducible refine below_drewN ?_ _) | (with_reducible refine below_put ?_ ?_ _; rotate_left 1; (dsimp only; omega)) | (with_reducible refine below_then ?_ (by assumption))))) (rd_grown m4 (by repeat (first | with_reducible exact Below.refl _ _ | with_reducible assumption | (with_reducible exact Env.below (by assumption)) | (with_reducible refine below_new ?_ _) | (with_reducible refine below_drew ?_) | (with_reducible refine below_drewN ?_ _) | (with_reducible refine below_put ?_ ?_ _; rotate_left 1; (dsimp only; omega)) | (with_reducible refine below_then ?_ (by assumption))))) (manyS_len _) (manyS_len _) rfl (by omega)).mono ?_
          rintro r u15 ⟨rfl, hu15⟩
          go_wp2_with fail
          go_at_call 69
          refine (sspans_any _ _ 2 1 [(0, 8001)] _ rfl rfl (by omega) (rd_lit u15 [0, 8001] _ _ rfl)).mono ?_
          rintro r u16 ⟨v16, rfl, own16, hu16⟩
          obtain ⟨B16, d16, rfl, -, zz16⟩ := own_shape_z own16 (n := 1) rfl
          go_wp2_with fail
          go_at_call 63
          refine (ssame_yes _ _ _ _ _ _ [(0, 8001)] [(0, 8001)] _ (rd_grown rr9 (by repeat (first | with_reducible exact Below.refl _ _ | with_reducible assumption | (with_reducible exact Env.below (by assumption)) | (with_reducible refine below_new ?_ _) | (with_reducible refine below_drew ?_) | (with_reducible refine below_drewN ?_ _) | (with_reducible refine below_put ?_ ?_ _; rotate_left 1; (dsimp only; omega)) | (with_reducible refine below_then ?_ (by assumption))))) (Own.rd senc_len own16) rfl rfl rfl (by decide)).mono ?_
          rintro r u17 ⟨rfl, hu17⟩
          go_wp2_with fail
          go_at_call 69
          refine (sspans_any _ _ 2 1 [(1099511627776, 1100585369600)] _ rfl rfl (by omega) (rd_lit u17 [1099511627776, 1100585369600] _ _ rfl)).mono ?_
          rintro r u18 ⟨v18, rfl, own18, hu18⟩
          obtain ⟨B18, d18, rfl, -, zz18⟩ := own_shape_z own18 (n := 1) rfl
          go_wp2_with fail
          go_at_call 63
          refine (ssame_yes _ _ _ _ _ _ [(1099511627776, 1100585369600)] [(1099511627776, 1100585369600)] _ (rd_grown rr13 (by repeat (first | with_reducible exact Below.refl _ _ | with_reducible assumption | (with_reducible exact Env.below (by assumption)) | (with_reducible refine below_new ?_ _) | (with_reducible refine below_drew ?_) | (with_reducible refine below_drewN ?_ _) | (with_reducible refine below_put ?_ ?_ _; rotate_left 1; (dsimp only; omega)) | (with_reducible refine below_then ?_ (by assumption))))) (Own.rd senc_len own18) rfl rfl rfl (by decide)).mono ?_
          rintro r u19 ⟨rfl, hu19⟩
          go_wp2
          go_ret
          exact ⟨rfl, (by repeat (first | with_reducible exact Below.refl _ _ | with_reducible assumption | (with_reducible exact Env.below (by assumption)) | (with_reducible refine below_new ?_ _) | (with_reducible refine below_drew ?_) | (with_reducible refine below_drewN ?_ _) | (with_reducible refine below_put ?_ ?_ _; rotate_left 1; (dsimp only; omega)) | (with_reducible refine below_then ?_ (by assumption))))⟩
end Go.Proofs.Ytffehibdeogjeaa
