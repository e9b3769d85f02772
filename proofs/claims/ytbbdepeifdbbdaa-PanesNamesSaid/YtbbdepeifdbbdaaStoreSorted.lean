/- The contract of the reference's Sorted of entries (chapter 17). Condition: entries of different keys, at most 2^40. -/
import Derived.Test.YtbbdepeifdbbdaaStoreFire
import Derived.Test.YtbbdepeifdbbdaaKitE
namespace Go.Proofs.Ytbbdepeifdbbdaa
open Go.RowKit

theorem plE_from {S : List En} (hs : SS S) {x : En} (hd : ∀ y ∈ S, dif y x) {a : Nat} (ha : a ≤ S.length) (h1 : ∀ m y, a ≤ m → S[m]? = some y → enlt x y = true) (h2 : ∀ y, 0 < a → S[a - 1]? = some y → enlt x y = false) :
    insE S x = S.take a ++ x :: S.drop a := by
  refine (plE_at ha (fun m y hm hy => ?_) (fun y hy => enlt_asym (h1 a y (Nat.le_refl _) hy))).2
  obtain ⟨z, hz⟩ : ∃ z, S[a - 1]? = some z := ⟨_, List.getElem?_eq_getElem (by omega)⟩
  have hzx : enlt z x = true := (hd z (List.mem_of_getElem? hz)).resolve_right (by rw [h2 z (by omega) hz]; simp)
  rcases Nat.lt_or_eq_of_le (show m ≤ a - 1 by omega) with h | rfl
  · exact enlt_tr (ss_get hs h hy hz) hzx
  · rw [hz] at hy; obtain rfl := Option.some.inj hy; exact hzx
theorem mid_set {S : List En} {kk : Nat} {z y : En} (hk : kk ≤ S.length) : (S.take kk ++ z :: S.drop kk).set kk y = S.take kk ++ y :: S.drop kk := by
  rw [List.set_append_right _ _ (by simp; omega)]
  simp [Nat.min_eq_left hk]
theorem mid_back {S : List En} {p : Nat} {y : En} (hy : S[p]? = some y) : S.take (p + 1) ++ y :: S.drop (p + 1) = S.take p ++ y :: S.drop p := by
  obtain ⟨h1, h2⟩ := List.getElem?_eq_some_iff.1 hy
  rw [List.take_add_one, hy]
  have : S.drop p = y :: S.drop (p + 1) := by rw [← h2, List.getElem_cons_drop]
  rw [this]
  simp
theorem mid_get {S : List En} {p : Nat} {z : En} (hk : p + 1 ≤ S.length) : (S.take (p + 1) ++ z :: S.drop (p + 1))[p]? = S[p]? := by
  rw [List.getElem?_append_left (by simp; omega), List.getElem?_take, if_pos (by omega)]
theorem mid_at {S : List En} {kk : Nat} {z : En} (hk : kk ≤ S.length) : (S.take kk ++ z :: S.drop kk)[kk]? = some z := by
  rw [List.getElem?_append_right (by simp; omega)]
  simp [Nat.min_eq_left hk]
theorem mid_len {S : List En} {kk : Nat} {z : En} (hk : kk ≤ S.length) : (S.take kk ++ z :: S.drop kk).length = S.length + 1 := by simp; omega
def SortP (l : List En) (w : World) (r : Ending) (w' : World) : Prop := ∃ v, r = .returned v ∧ Own enenc 11 w' w.heap.size 43 v (sortE l) ∧ Below w.heap.size w w'
set_option maxHeartbeats 16000000 in
set_option maxRecDepth 100000 in
theorem sortedR_any (A : Option Addr) (c n : Nat) (l : List En) (w : World) (hln : l.length = n) (hn : n ≤ 1099511627776) (hd : l.Pairwise dif) (hr : Rd enenc 11 w w.heap.size A l) :
    Calls Try.prog 97 #[.slice A n c] w (SortP l w) := by
  obtain ⟨i0, hi0, hz0, hz1, hz2⟩ := info_parts en_info
  have HLN := Lib.hid hln; have HD := Lib.hid hd
  clear hln hd
  go_enter Try.func97, Try.ntmps97
  go_wp2_with fail
  go_loopw [3, 4] (fun u i wr => ∃ k : Nat, i = .int .i64 k ∧ k ≤ n ∧ Own enenc 11 wr w.heap.size 43 u (sortE (l.take k)) ∧ Below w.heap.size w wr) (fun _ i _ => n - (intOf i).toNat)
  case atStart => exact ⟨0, rfl, Nat.zero_le _, Own.nil _ _ _, Below.refl _ _⟩
  case round =>
    obtain ⟨k, rfl, hk, ho, hb⟩ := hrel
    obtain ⟨S, hS⟩ : ∃ S, S = sortE (l.take k) := ⟨_, rfl⟩
    rw [← hS] at ho
    obtain ⟨hp1, hp2⟩ := sortE_facts (l := l.take k) (HD.out.sublist (List.take_sublist k l))
    rw [← hS] at hp1 hp2
    have hSl : S.length = k := by rw [hp1.length_eq, List.length_take, HLN.out]; omega
    have HS := Lib.hid hS; have HP1 := Lib.hid hp1; have HP2 := Lib.hid hp2; have HSL := Lib.hid hSl
    clear hS hp1 hp2 hSl
    obtain ⟨Au, cu, rfl, -⟩ := own_shape_n ho HSL.out
    by_cases hlt : k < n
    · obtain ⟨x, hx⟩ : ∃ x, l[k]? = some x := ⟨_, List.getElem?_eq_getElem (by rw [HLN.out]; exact hlt)⟩
      have hnx : sortE (l.take (k + 1)) = insE S x := by rw [HS.out, List.take_add_one, hx]; exact sortE_snoc _ _
      have hdx : ∀ y ∈ S, dif y x := fun y hy => by
        have hy' := HP1.out.mem_iff.1 hy
        obtain ⟨j, hj⟩ := List.mem_iff_getElem?.1 hy'
        rw [List.getElem?_take] at hj
        split at hj
        · rename_i hjk
          obtain ⟨j1, j2⟩ := List.getElem?_eq_some_iff.1 hj
          obtain ⟨k1, k2⟩ := List.getElem?_eq_some_iff.1 hx
          have := List.pairwise_iff_getElem.1 HD.out j k j1 k1 hjk
          rw [j2, k2] at this
          exact this
        · cases hj
      have HNX := Lib.hid hnx; have HDX := Lib.hid hdx; have HX := Lib.hid hx
      have d1 : decide ((k : Int) < (n : Int)) = true := by simp; omega
      have d1' : decide (k < n) = true := by simp [hlt]
      have k1 : (0 : Int) ≤ (k : Int) := by omega
      have k2 : (k : Int) < (n : Int) := by omega
      have e1 : IntKind.i64.wrap ((k : Int) + 1) = (k : Int) + 1 := IntWalk.i64_in _ (by omega)
      clear hnx hdx hx hlt
      go_wp2_with fail
      go_loopw [5] (fun s wq => ∃ a : Nat, s = .int .i64 a ∧ a ≤ k ∧ (∀ m y, a ≤ m → S[m]? = some y → enlt x y = true) ∧ Own enenc 11 wq w.heap.size 43 (.slice Au k cu) S ∧ Below w.heap.size w wq) (fun s _ => (intOf s).toNat)
      case atStart => exact ⟨k, rfl, Nat.le_refl _, fun m y hm hy => by have := (List.getElem?_eq_some_iff.1 hy).1; rw [HSL.out] at this; omega, ho, hb⟩
      case round =>
        clear ho hb
        obtain ⟨a, rfl, hak, hgt, ho, hb⟩ := hrel
        have HGT := Lib.hid hgt
        clear hgt
        obtain ⟨b, off, rfl, hbb, f0, f1, f2, f3, f4, f5, f6, f7, f8, f9, f10⟩ := en_cells (rd_grown hr hb) HX.out
        by_cases ha0 : a = 0
        · subst ha0
          obtain ⟨lE, hE, hR⟩ : ∃ lE : List (Nat × List Value), Env wr lE wr ∧ (∀ X, Env wr lE X → True) := ⟨[], ⟨Below.refl _ _, trivial⟩, fun _ _ => trivial⟩
          go_wp2_with fail
          refine wp_region_held_drew (S := Env wr lE) (by kernel_rfl) (by (first | assumption | exact Env.step (by assumption) (by assumption) | exact Env.old (by assumption) _ | exact Env.drew hE | exact hE | exact Env.drew (by assumption) | exact Env.drew (Env.old (by assumption) _) | ((repeat first | refine Env.far0 ?_ (by assumption) _ | refine Env.far1 ?_ (by assumption) _ | refine Env.farA ?_ (by assumption) _); assumption))) (fun hHeld => ?_)
          refine hTake 0 (by kernel_rfl) (by kernel_rfl) (by kernel_rfl) (by decide) (by assumption) ?_; (intro oi hoi; simp only [List.getElem?_toArray, List.getElem?_cons_zero] at hoi; obtain rfl := Option.some.inj hoi; clear hoi); refine ⟨rfl, ?_⟩; apply Exists.intro; refine ⟨?_, fun _ _ _ h => h, ?_⟩; (intro w hSw; (try dsimp only at hSw); go_simp; (try with_reducible rfl)); (try simp only [Act.put, List.setIfInBounds_toArray, List.set_cons_zero, List.set_cons_succ]); refine hTake 1 (by kernel_rfl) (by kernel_rfl) (by kernel_rfl) (by decide) (by assumption) ?_; (intro oi hoi; simp only [List.getElem?_toArray, List.getElem?_cons_succ, List.getElem?_cons_zero] at hoi; obtain rfl := Option.some.inj hoi; clear hoi); refine ⟨rfl, ?_⟩; apply Exists.intro; refine ⟨?_, fun _ _ _ h => h, ?_⟩; (intro w hSw; (try dsimp only at hSw); go_simp; (try with_reducible rfl)); (try simp only [Act.put, List.setIfInBounds_toArray, List.set_cons_zero, List.set_cons_succ]); refine hTake 2 (by kernel_rfl) (by kernel_rfl) (by kernel_rfl) (by decide) (by assumption) ?_; (intro oi hoi; simp only [List.getElem?_toArray, List.getElem?_cons_succ, List.getElem?_cons_zero] at hoi; obtain rfl := Option.some.inj hoi; clear hoi); refine ⟨rfl, ?_⟩; apply Exists.intro; refine ⟨?_, fun _ _ _ h => h, ?_⟩; (intro w hSw; (try dsimp only at hSw); go_simp; (try with_reducible rfl)); (try simp only [Act.put, List.setIfInBounds_toArray, List.set_cons_zero, List.set_cons_succ])
          refine hSkip 3 (by kernel_rfl) (by kernel_rfl) (by kernel_rfl) (by decide) (by assumption) ?_; (intro oi hoi; simp only [List.getElem?_toArray, List.getElem?_cons_succ, List.getElem?_cons_zero] at hoi; obtain rfl := Option.some.inj hoi; clear hoi); refine ⟨rfl, fun _ _ _ h => h, ?_⟩; (try simp only [Act.put, List.setIfInBounds_toArray, List.set_cons_zero, List.set_cons_succ]); refine hSkip 4 (by kernel_rfl) (by kernel_rfl) (by kernel_rfl) (by decide) (by assumption) ?_; (intro oi hoi; simp only [List.getElem?_toArray, List.getElem?_cons_succ, List.getElem?_cons_zero] at hoi; obtain rfl := Option.some.inj hoi; clear hoi); refine ⟨rfl, fun _ _ _ h => h, ?_⟩; (try simp only [Act.put, List.setIfInBounds_toArray, List.set_cons_zero, List.set_cons_succ]); refine hSkip 5 (by kernel_rfl) (by kernel_rfl) (by kernel_rfl) (by decide) (by assumption) ?_; (intro oi hoi; simp only [List.getElem?_toArray, List.getElem?_cons_succ, List.getElem?_cons_zero] at hoi; obtain rfl := Option.some.inj hoi; clear hoi); refine ⟨rfl, fun _ _ _ h => h, ?_⟩; (try simp only [Act.put, List.setIfInBounds_toArray, List.set_cons_zero, List.set_cons_succ]); refine hSkip 6 (by kernel_rfl) (by kernel_rfl) (by kernel_rfl) (by decide) (by assumption) ?_; (intro oi hoi; simp only [List.getElem?_toArray, List.getElem?_cons_succ, List.getElem?_cons_zero] at hoi; obtain rfl := Option.some.inj hoi; clear hoi); refine ⟨rfl, fun _ _ _ h => h, ?_⟩; (try simp only [Act.put, List.setIfInBounds_toArray, List.set_cons_zero, List.set_cons_succ]); refine hSkip 7 (by kernel_rfl) (by kernel_rfl) (by kernel_rfl) (by decide) (by assumption) ?_; (intro oi hoi; simp only [List.getElem?_toArray, List.getElem?_cons_succ, List.getElem?_cons_zero] at hoi; obtain rfl := Option.some.inj hoi; clear hoi); refine ⟨rfl, fun _ _ _ h => h, ?_⟩; (try simp only [Act.put, List.setIfInBounds_toArray, List.set_cons_zero, List.set_cons_succ]); refine hSkip 8 (by kernel_rfl) (by kernel_rfl) (by kernel_rfl) (by decide) (by assumption) ?_; (intro oi hoi; simp only [List.getElem?_toArray, List.getElem?_cons_succ, List.getElem?_cons_zero] at hoi; obtain rfl := Option.some.inj hoi; clear hoi); refine ⟨rfl, fun _ _ _ h => h, ?_⟩; (try simp only [Act.put, List.setIfInBounds_toArray, List.set_cons_zero, List.set_cons_succ]); refine hSkip 9 (by kernel_rfl) (by kernel_rfl) (by kernel_rfl) (by decide) (by assumption) ?_; (intro oi hoi; simp only [List.getElem?_toArray, List.getElem?_cons_succ, List.getElem?_cons_zero] at hoi; obtain rfl := Option.some.inj hoi; clear hoi); refine ⟨rfl, fun _ _ _ h => h, ?_⟩; (try simp only [Act.put, List.setIfInBounds_toArray, List.set_cons_zero, List.set_cons_succ]); refine hSkip 10 (by kernel_rfl) (by kernel_rfl) (by kernel_rfl) (by decide) (by assumption) ?_; (intro oi hoi; simp only [List.getElem?_toArray, List.getElem?_cons_succ, List.getElem?_cons_zero] at hoi; obtain rfl := Option.some.inj hoi; clear hoi); refine ⟨rfl, fun _ _ _ h => h, ?_⟩; (try simp only [Act.put, List.setIfInBounds_toArray, List.set_cons_zero, List.set_cons_succ]); refine hSkip 11 (by kernel_rfl) (by kernel_rfl) (by kernel_rfl) (by decide) (by assumption) ?_; (intro oi hoi; simp only [List.getElem?_toArray, List.getElem?_cons_succ, List.getElem?_cons_zero] at hoi; obtain rfl := Option.some.inj hoi; clear hoi); refine ⟨rfl, fun _ _ _ h => h, ?_⟩; (try simp only [Act.put, List.setIfInBounds_toArray, List.set_cons_zero, List.set_cons_succ]); refine hSkip 12 (by kernel_rfl) (by kernel_rfl) (by kernel_rfl) (by decide) (by assumption) ?_; (intro oi hoi; simp only [List.getElem?_toArray, List.getElem?_cons_succ, List.getElem?_cons_zero] at hoi; obtain rfl := Option.some.inj hoi; clear hoi); refine ⟨rfl, fun _ _ _ h => h, ?_⟩; (try simp only [Act.put, List.setIfInBounds_toArray, List.set_cons_zero, List.set_cons_succ])
          refine hTake 13 (by kernel_rfl) (by kernel_rfl) (by kernel_rfl) (by decide) (by assumption) ?_; (intro oi hoi; simp only [List.getElem?_toArray, List.getElem?_cons_succ, List.getElem?_cons_zero] at hoi; obtain rfl := Option.some.inj hoi; clear hoi); refine ⟨rfl, ?_⟩; apply Exists.intro; refine ⟨?_, fun _ _ _ h => h, ?_⟩; (intro w hSw; (try dsimp only at hSw); go_simp; (try with_reducible rfl)); (try simp only [Act.put, List.setIfInBounds_toArray, List.set_cons_zero, List.set_cons_succ])
          refine wpAnyH_done (by kernel_rfl) ?_ _
          obtain ⟨W8, hW8⟩ : ∃ W8, W8 = wr.drew := ⟨_, rfl⟩
          rw [← hW8] at hHeld ⊢
          clear hW8
          have hbx := hHeld.1
          have hox := ho.below hbx
          have hbX := below_then hb hbx
          have hI := plE_from HP2.out HDX.out (a := 0) (by rw [HSL.out]; omega) HGT.out (fun y h => absurd h (by omega))
          have HI := Lib.hid hI; have HS1 := Lib.hid (show (S ++ [en0]).length = k + 1 by simp [HSL.out])
          clear hR hE hI ho hb
          go_wp2_with (at_builtin; refine wpList_append_fs rfl _ _ 27 rfl w.heap.size 43 i0 (.agg #[.int .i64 0, .int .i64 0, .int .i64 0, .int .i64 0, .int .i64 0, .int .i64 0, .int .i64 0, .int .i64 0, .int .i64 0, .int .i64 0, .int .i64 0]) 11 88 Try.underlying27 hi0 hz0 hz1 hz2 rfl (by decide) enenc enenc_len _ S en0 rfl (hox.alloc (.cells (enenc en0).toArray 43)) ⟨W8.heap.size, 0, none⟩ 1 rfl (en_new W8 en0 43 W8.heap.size rfl) (enenc_one [en0]) (by rw [HSL.out]; unfold maxLen; omega) (by rw [HSL.out]; omega) (by rw [World.size_alloc]; exact Nat.le_succ_of_le hbX.size) ?_; intro v' w7 own7 hgr7 hsf; obtain ⟨g7, c7, rfl, hcc7, hgl7⟩ := World.ownsRow.form own7 (by simp); rw [show (S ++ [en0]).length = k + 1 from HS1.out] at own7 ⊢)
          have hb7 : Below w.heap.size w w7 := (below_new hbX (.cells (enenc en0).toArray 43)).grown hgr7 (by rw [World.size_alloc]; exact Nat.le_succ_of_le hbX.size) (fun j hj => (World.ownsRow.lt hox j hj).1)
          have own8 : Own enenc 11 w7 w.heap.size 43 (.slice (some ⟨g7, 0, none⟩) (k + 1) c7) (S.take k ++ en0 :: S.drop k) := by
            rw [List.take_of_length_le (by rw [HSL.out]; exact Nat.le_refl _), List.drop_of_length_le (by rw [HSL.out]; exact Nat.le_refl _)]
            exact own7
          clear hgr7 hsf hox hbX hbx hHeld own7 hcc7 hgl7
          go_wp2_with fail
          go_loopw [6] (fun s wz => ∃ (kk : Nat) (z : En), s = .int .i64 kk ∧ 0 ≤ kk ∧ kk ≤ k ∧ Own enenc 11 wz w.heap.size 43 (.slice (some ⟨g7, 0, none⟩) (k + 1) c7) (S.take kk ++ z :: S.drop kk) ∧ Below w.heap.size w wz) (fun s _ => (intOf s).toNat)
          case atStart => exact ⟨k, en0, rfl, by omega, Nat.le_refl _, own8, hb7⟩
          case round =>
            clear own8 hb7
            obtain ⟨kk, z, rfl, hak2, hkk, ho9, hb9⟩ := hrel
            obtain ⟨g0, -, hf0, -⟩ : g7 < wr.heap.size ∧ True ∧ (∀ o, wr.frozen? ⟨g7, o, none⟩ = false) ∧ True := ⟨(World.ownsRow.lt ho9 g7 rfl).2, trivial, own_free ho9, trivial⟩
            by_cases hgo : 0 < kk
            · obtain ⟨p2, rfl⟩ : ∃ p2, kk = p2 + 1 := ⟨kk - 1, by omega⟩
              obtain ⟨y2, hy2⟩ : ∃ y2, S[p2]? = some y2 := ⟨_, List.getElem?_eq_getElem (by rw [HSL.out]; omega)⟩
              have hat : (S.take (p2 + 1) ++ z :: S.drop (p2 + 1))[p2]? = some y2 := by rw [mid_get (by rw [HSL.out]; omega)]; exact hy2
              have hzz : (S.take (p2 + 1) ++ z :: S.drop (p2 + 1))[p2 + 1]? = some z := mid_at (by rw [HSL.out]; omega)
              obtain ⟨-, q0, q1, q2, q3, q4, q5, q6, q7, q8, q9, q10⟩ := own_en ho9 hat
              obtain ⟨-, z0, z1, z2, z3, z4, z5, z6, z7, z8, z9, z10⟩ := own_en ho9 hzz
              have hst := own_put ho9 hzz (o := 0) (x' := y2) (us := [.int .i64 y2.k, .int .i64 y2.s, .int .i64 y2.e, .int .i64 y2.c1, .int .i64 y2.s1, .int .i64 y2.m1, .int .i64 y2.x1, .int .i64 y2.c2, .int .i64 y2.s2, .int .i64 y2.m2, .int .i64 y2.x2]) rfl (by simp)
              rw [mid_set (by rw [HSL.out]; omega), mid_back hy2] at hst
              have HST := Lib.hid hst
              have d5 : decide ((0 : Int) < ((p2 + 1 : Nat) : Int)) = true := by simp <;> omega
              have d5' : decide (0 < p2 + 1) = true := by simp <;> omega
              have t1 : (0 : Int) ≤ (p2 : Int) := by omega
              have hgo2 : 0 ≤ p2 := by omega
              have t2 : (p2 : Int) < (k : Int) + 1 := by omega
              have t3 : IntKind.i64.wrap (p2 : Int) = (p2 : Int) := IntWalk.i64_in _ (by omega)
              have t4 : (p2 : Int) + 1 < (k : Int) + 1 := by omega
              have t5 : (0 : Int) ≤ (p2 : Int) + 1 := by omega
              clear hat hzz hst hy2 hgo
              go_wp2
              go_roundw
              case rel => exact ⟨p2, y2, by go_num, by omega, by omega, HST.out.1, hb9.grown HST.out.2 hb9.size (fun j hj => by cases hj; exact (World.ownsRow.lt ho9 g7 rfl).1)⟩
              case measure => first | (simp [intOf]; done) | (simp [intOf]; omega)
            · obtain rfl : kk = 0 := by omega
              have d5 : decide ((0 : Int) < (0 : Int)) = false := by simp
              have d5' : decide (0 < 0) = false := by simp
              have hzz : (S.take 0 ++ z :: S.drop 0)[0]? = some z := mid_at (by rw [HSL.out]; omega)
              obtain ⟨-, z0, z1, z2, z3, z4, z5, z6, z7, z8, z9, z10⟩ := own_en ho9 hzz
              obtain ⟨b2, off2, e2', hbb2, r0, r1, r2, r3, r4, r5, r6, r7, r8, r9, r10⟩ := en_cells (rd_grown hr hb9) HX.out
              simp only [Option.some.injEq, Addr.mk.injEq, and_true] at e2'
              obtain ⟨rfl, rfl⟩ := e2'
              have hst := own_put ho9 hzz (o := 0) (x' := x) (us := [.int .i64 x.k, .int .i64 x.s, .int .i64 x.e, .int .i64 x.c1, .int .i64 x.s1, .int .i64 x.m1, .int .i64 x.x1, .int .i64 x.c2, .int .i64 x.s2, .int .i64 x.m2, .int .i64 x.x2]) rfl (by simp)
              rw [mid_set (by rw [HSL.out]; omega), ← HI.out, ← HNX.out] at hst
              have HST := Lib.hid hst
              have t2 : (0 : Int) < (k : Int) + 1 := by omega
              have t5 : (0 : Int) ≤ (0 : Int) := by omega
              clear hzz hst hgo
              go_wp2
              go_roundw
              case rel => exact ⟨k + 1, by go_num, by omega, HST.out.1, hb9.grown HST.out.2 hb9.size (fun j hj => by cases hj; exact (World.ownsRow.lt ho9 g7 rfl).1)⟩
              case measure => first | (simp [intOf]; done) | (simp [intOf]; omega)
        · obtain ⟨p, rfl⟩ : ∃ p, a = p + 1 := ⟨a - 1, by omega⟩
          obtain ⟨y, hy⟩ : ∃ y, S[p]? = some y := ⟨_, List.getElem?_eq_getElem (by rw [HSL.out]; omega)⟩
          obtain ⟨g, rfl⟩ : ∃ g, Au = some ⟨g, 0, none⟩ := by
            obtain ⟨b', off', e', -, -⟩ := (Own.rd enenc_len ho) (by rintro rfl; simp at hy)
            obtain ⟨A', c', hv, -, -, hA⟩ := ho.form
            injection hv with hv1
            subst hv1
            obtain ⟨g, hg, -⟩ := hA _ e'
            exact ⟨g, by rw [e', hg]⟩
          obtain ⟨hgl, v0, v1, v2, v3, v4, v5, v6, v7, v8, v9, v10⟩ := own_en ho hy
          have HY := Lib.hid hy
          have t1 : (0 : Int) ≤ (p : Int) := by omega
          have t2 : (p : Int) < (k : Int) := by omega
          have t3 : IntKind.i64.wrap (p : Int) = (p : Int) := IntWalk.i64_in _ (by omega)
          obtain ⟨D, hD⟩ : ∃ D, D = enlt x y := ⟨_, rfl⟩
          have hle := fun W => less17_any x y W
          rw [← hD] at hle
          have HLE := Lib.hid hle; have HDD := Lib.hid hD
          clear hle hD hy ha0
          have hE : Env wr [] wr := ⟨Below.refl _ _, trivial⟩
          have hR : ∀ X, Env wr [] X → X.cell? ⟨b, off + k * 11, none⟩ = some (.int .i64 x.k) ∧ X.cell? ⟨b, off + k * 11 + 1, none⟩ = some (.int .i64 x.s) ∧ X.cell? ⟨b, off + k * 11 + 2, none⟩ = some (.int .i64 x.e) ∧ X.cell? ⟨b, off + k * 11 + 3, none⟩ = some (.int .i64 x.c1) ∧ X.cell? ⟨b, off + k * 11 + 4, none⟩ = some (.int .i64 x.s1) ∧ X.cell? ⟨b, off + k * 11 + 5, none⟩ = some (.int .i64 x.m1) ∧ X.cell? ⟨b, off + k * 11 + 6, none⟩ = some (.int .i64 x.x1) ∧ X.cell? ⟨b, off + k * 11 + 7, none⟩ = some (.int .i64 x.c2) ∧ X.cell? ⟨b, off + k * 11 + 8, none⟩ = some (.int .i64 x.s2) ∧ X.cell? ⟨b, off + k * 11 + 9, none⟩ = some (.int .i64 x.m2) ∧ X.cell? ⟨b, off + k * 11 + 10, none⟩ = some (.int .i64 x.x2) ∧ X.cell? ⟨g, p * 11, none⟩ = some (.int .i64 y.k) ∧ X.cell? ⟨g, p * 11 + 1, none⟩ = some (.int .i64 y.s) ∧ X.cell? ⟨g, p * 11 + 2, none⟩ = some (.int .i64 y.e) ∧ X.cell? ⟨g, p * 11 + 3, none⟩ = some (.int .i64 y.c1) ∧ X.cell? ⟨g, p * 11 + 4, none⟩ = some (.int .i64 y.s1) ∧ X.cell? ⟨g, p * 11 + 5, none⟩ = some (.int .i64 y.m1) ∧ X.cell? ⟨g, p * 11 + 6, none⟩ = some (.int .i64 y.x1) ∧ X.cell? ⟨g, p * 11 + 7, none⟩ = some (.int .i64 y.c2) ∧ X.cell? ⟨g, p * 11 + 8, none⟩ = some (.int .i64 y.s2) ∧ X.cell? ⟨g, p * 11 + 9, none⟩ = some (.int .i64 y.m2) ∧ X.cell? ⟨g, p * 11 + 10, none⟩ = some (.int .i64 y.x2) := fun X hX => ⟨(hX.1.cell (p := ⟨b, off + k * 11, none⟩) hbb).trans f0, (hX.1.cell (p := ⟨b, off + k * 11 + 1, none⟩) hbb).trans f1, (hX.1.cell (p := ⟨b, off + k * 11 + 2, none⟩) hbb).trans f2, (hX.1.cell (p := ⟨b, off + k * 11 + 3, none⟩) hbb).trans f3, (hX.1.cell (p := ⟨b, off + k * 11 + 4, none⟩) hbb).trans f4, (hX.1.cell (p := ⟨b, off + k * 11 + 5, none⟩) hbb).trans f5, (hX.1.cell (p := ⟨b, off + k * 11 + 6, none⟩) hbb).trans f6, (hX.1.cell (p := ⟨b, off + k * 11 + 7, none⟩) hbb).trans f7, (hX.1.cell (p := ⟨b, off + k * 11 + 8, none⟩) hbb).trans f8, (hX.1.cell (p := ⟨b, off + k * 11 + 9, none⟩) hbb).trans f9, (hX.1.cell (p := ⟨b, off + k * 11 + 10, none⟩) hbb).trans f10, (hX.1.cell (p := ⟨g, p * 11, none⟩) hgl).trans v0, (hX.1.cell (p := ⟨g, p * 11 + 1, none⟩) hgl).trans v1, (hX.1.cell (p := ⟨g, p * 11 + 2, none⟩) hgl).trans v2, (hX.1.cell (p := ⟨g, p * 11 + 3, none⟩) hgl).trans v3, (hX.1.cell (p := ⟨g, p * 11 + 4, none⟩) hgl).trans v4, (hX.1.cell (p := ⟨g, p * 11 + 5, none⟩) hgl).trans v5, (hX.1.cell (p := ⟨g, p * 11 + 6, none⟩) hgl).trans v6, (hX.1.cell (p := ⟨g, p * 11 + 7, none⟩) hgl).trans v7, (hX.1.cell (p := ⟨g, p * 11 + 8, none⟩) hgl).trans v8, (hX.1.cell (p := ⟨g, p * 11 + 9, none⟩) hgl).trans v9, (hX.1.cell (p := ⟨g, p * 11 + 10, none⟩) hgl).trans v10⟩
          go_wp2_with fail
          cases D with
          | true =>
            refine wp_region_held_drew (S := Env wr []) (by kernel_rfl) (by (first | assumption | exact Env.step (by assumption) (by assumption) | exact Env.old (by assumption) _ | exact Env.drew hE | exact hE | exact Env.drew (by assumption) | exact Env.drew (Env.old (by assumption) _) | ((repeat first | refine Env.far0 ?_ (by assumption) _ | refine Env.far1 ?_ (by assumption) _ | refine Env.farA ?_ (by assumption) _); assumption))) (fun hHeld => ?_)
            refine hTake 0 (by kernel_rfl) (by kernel_rfl) (by kernel_rfl) (by decide) (by assumption) ?_; (intro oi hoi; simp only [List.getElem?_toArray, List.getElem?_cons_zero] at hoi; obtain rfl := Option.some.inj hoi; clear hoi); refine ⟨rfl, ?_⟩; apply Exists.intro; refine ⟨?_, fun _ _ _ h => h, ?_⟩; (intro w hSw; (try dsimp only at hSw); go_simp; (try with_reducible rfl)); (try simp only [Act.put, List.setIfInBounds_toArray, List.set_cons_zero, List.set_cons_succ]); refine hTake 1 (by kernel_rfl) (by kernel_rfl) (by kernel_rfl) (by decide) (by assumption) ?_; (intro oi hoi; simp only [List.getElem?_toArray, List.getElem?_cons_succ, List.getElem?_cons_zero] at hoi; obtain rfl := Option.some.inj hoi; clear hoi); refine ⟨rfl, ?_⟩; apply Exists.intro; refine ⟨?_, fun _ _ _ h => h, ?_⟩; (intro w hSw; (try dsimp only at hSw); go_simp; (try with_reducible rfl)); (try simp only [Act.put, List.setIfInBounds_toArray, List.set_cons_zero, List.set_cons_succ]); refine hTake 2 (by kernel_rfl) (by kernel_rfl) (by kernel_rfl) (by decide) (by assumption) ?_; (intro oi hoi; simp only [List.getElem?_toArray, List.getElem?_cons_succ, List.getElem?_cons_zero] at hoi; obtain rfl := Option.some.inj hoi; clear hoi); refine ⟨rfl, ?_⟩; apply Exists.intro; refine ⟨?_, fun _ _ _ h => h, ?_⟩; (intro w hSw; (try dsimp only at hSw); go_simp; (try with_reducible rfl)); (try simp only [Act.put, List.setIfInBounds_toArray, List.set_cons_zero, List.set_cons_succ]); refine hTake 3 (by kernel_rfl) (by kernel_rfl) (by kernel_rfl) (by decide) (by assumption) ?_; (intro oi hoi; simp only [List.getElem?_toArray, List.getElem?_cons_succ, List.getElem?_cons_zero] at hoi; obtain rfl := Option.some.inj hoi; clear hoi); refine ⟨rfl, ?_⟩; apply Exists.intro; refine ⟨?_, fun _ _ _ h => h, ?_⟩; (intro w hSw; (try dsimp only at hSw); go_simp; (try with_reducible rfl)); (try simp only [Act.put, List.setIfInBounds_toArray, List.set_cons_zero, List.set_cons_succ]); refine hTake 4 (by kernel_rfl) (by kernel_rfl) (by kernel_rfl) (by decide) (by assumption) ?_; (intro oi hoi; simp only [List.getElem?_toArray, List.getElem?_cons_succ, List.getElem?_cons_zero] at hoi; obtain rfl := Option.some.inj hoi; clear hoi); refine ⟨rfl, ?_⟩; apply Exists.intro; refine ⟨?_, fun _ _ _ h => h, ?_⟩; (intro w hSw; (try dsimp only at hSw); go_simp; (try with_reducible rfl)); (try simp only [Act.put, List.setIfInBounds_toArray, List.set_cons_zero, List.set_cons_succ]); refine hTake 5 (by kernel_rfl) (by kernel_rfl) (by kernel_rfl) (by decide) (by assumption) ?_; (intro oi hoi; simp only [List.getElem?_toArray, List.getElem?_cons_succ, List.getElem?_cons_zero] at hoi; obtain rfl := Option.some.inj hoi; clear hoi); refine ⟨rfl, ?_⟩; apply Exists.intro; refine ⟨?_, fun _ _ _ h => h, ?_⟩; (intro w hSw; (try dsimp only at hSw); go_simp; (try with_reducible rfl)); (try simp only [Act.put, List.setIfInBounds_toArray, List.set_cons_zero, List.set_cons_succ]); refine hTake 6 (by kernel_rfl) (by kernel_rfl) (by kernel_rfl) (by decide) (by assumption) ?_; (intro oi hoi; simp only [List.getElem?_toArray, List.getElem?_cons_succ, List.getElem?_cons_zero] at hoi; obtain rfl := Option.some.inj hoi; clear hoi); refine ⟨rfl, ?_⟩; apply Exists.intro; refine ⟨?_, fun _ _ _ h => h, ?_⟩; (intro w hSw; (try dsimp only at hSw); go_simp; (try with_reducible rfl)); (try simp only [Act.put, List.setIfInBounds_toArray, List.set_cons_zero, List.set_cons_succ]); refine hTake 7 (by kernel_rfl) (by kernel_rfl) (by kernel_rfl) (by decide) (by assumption) ?_; (intro oi hoi; simp only [List.getElem?_toArray, List.getElem?_cons_succ, List.getElem?_cons_zero] at hoi; obtain rfl := Option.some.inj hoi; clear hoi); refine ⟨rfl, ?_⟩; apply Exists.intro; refine ⟨?_, fun _ _ _ h => h, ?_⟩; (intro w hSw; (try dsimp only at hSw); go_simp; (try with_reducible rfl)); (try simp only [Act.put, List.setIfInBounds_toArray, List.set_cons_zero, List.set_cons_succ]); refine hTake 8 (by kernel_rfl) (by kernel_rfl) (by kernel_rfl) (by decide) (by assumption) ?_; (intro oi hoi; simp only [List.getElem?_toArray, List.getElem?_cons_succ, List.getElem?_cons_zero] at hoi; obtain rfl := Option.some.inj hoi; clear hoi); refine ⟨rfl, ?_⟩; apply Exists.intro; refine ⟨?_, fun _ _ _ h => h, ?_⟩; (intro w hSw; (try dsimp only at hSw); go_simp; (try with_reducible rfl)); (try simp only [Act.put, List.setIfInBounds_toArray, List.set_cons_zero, List.set_cons_succ]); refine hTake 9 (by kernel_rfl) (by kernel_rfl) (by kernel_rfl) (by decide) (by assumption) ?_; (intro oi hoi; simp only [List.getElem?_toArray, List.getElem?_cons_succ, List.getElem?_cons_zero] at hoi; obtain rfl := Option.some.inj hoi; clear hoi); refine ⟨rfl, ?_⟩; apply Exists.intro; refine ⟨?_, fun _ _ _ h => h, ?_⟩; (intro w hSw; (try dsimp only at hSw); go_simp; (try with_reducible rfl)); (try simp only [Act.put, List.setIfInBounds_toArray, List.set_cons_zero, List.set_cons_succ]); refine hTake 10 (by kernel_rfl) (by kernel_rfl) (by kernel_rfl) (by decide) (by assumption) ?_; (intro oi hoi; simp only [List.getElem?_toArray, List.getElem?_cons_succ, List.getElem?_cons_zero] at hoi; obtain rfl := Option.some.inj hoi; clear hoi); refine ⟨rfl, ?_⟩; apply Exists.intro; refine ⟨?_, fun _ _ _ h => h, ?_⟩; (intro w hSw; (try dsimp only at hSw); go_simp; (try with_reducible rfl)); (try simp only [Act.put, List.setIfInBounds_toArray, List.set_cons_zero, List.set_cons_succ]); refine hTake 11 (by kernel_rfl) (by kernel_rfl) (by kernel_rfl) (by decide) (by assumption) ?_; (intro oi hoi; simp only [List.getElem?_toArray, List.getElem?_cons_succ, List.getElem?_cons_zero] at hoi; obtain rfl := Option.some.inj hoi; clear hoi); refine ⟨rfl, ?_⟩; apply Exists.intro; refine ⟨?_, fun _ _ _ h => h, ?_⟩; (intro w hSw; (try dsimp only at hSw); go_simp; (try with_reducible rfl)); (try simp only [Act.put, List.setIfInBounds_toArray, List.set_cons_zero, List.set_cons_succ])
            refine hOnly 12 (by kernel_rfl) (by decide) ?_; (intro oi hoi; simp only [List.getElem?_toArray, List.getElem?_cons_succ, List.getElem?_cons_zero] at hoi; obtain rfl := Option.some.inj hoi; clear hoi); intro K hK; go_simp
            go_at_call 77
            refine (HLE.out _).mono ?_
            rintro r w3 ⟨rfl, hb3⟩
            have hEhb3 := Env.step hb3 (by assumption); (try (have hqhb3 := (by with_reducible first | exact Loc.below hb3 (Loc.new (Loc.nil _) _ _) | exact Loc.below hb3 (Loc.drew (Loc.new (Loc.nil _) _ _)) | exact Loc.below hb3 (by assumption : Loc _ [_])); (repeat rw [World.size_drew] at hqhb3); (repeat rw [World.size_alloc] at hqhb3); have hrhb3 := hqhb3; (repeat unfold Loc at hrhb3)))
            (refine hK.out _ _ (by (first | assumption | exact Env.step (by assumption) (by assumption) | exact Env.old (by assumption) _ | exact Env.drew hE | exact hE | exact Env.drew (by assumption) | exact Env.drew (Env.old (by assumption) _) | ((repeat first | refine Env.far0 ?_ (by assumption) _ | refine Env.far1 ?_ (by assumption) _ | refine Env.farA ?_ (by assumption) _); assumption))) (fun hHeld => ?_); clear hK K; (try simp only [Act.put, List.setIfInBounds_toArray, List.set_cons_zero, List.set_cons_succ]))
            refine hTake 13 (by kernel_rfl) (by kernel_rfl) (by kernel_rfl) (by decide) (by assumption) ?_; (intro oi hoi; simp only [List.getElem?_toArray, List.getElem?_cons_succ, List.getElem?_cons_zero] at hoi; obtain rfl := Option.some.inj hoi; clear hoi); refine ⟨rfl, ?_⟩; apply Exists.intro; refine ⟨?_, fun _ _ _ h => h, ?_⟩; (intro w hSw; (try dsimp only at hSw); go_simp; (try with_reducible rfl)); (try simp only [Act.put, List.setIfInBounds_toArray, List.set_cons_zero, List.set_cons_succ])
            refine wpAnyH_done (by kernel_rfl) ?_ _
            have hbx := hHeld.1
            clear hR hE
            go_wp2
            go_roundw
            case rel => exact ⟨p, by go_num, by omega, fun m z hm hz => by
              rcases Nat.lt_or_eq_of_le hm with h | rfl
              · exact HGT.out m z h hz
              · rw [HY.out] at hz; obtain rfl := Option.some.inj hz; exact HDD.out.symm, ho.below hbx, below_then hb hbx⟩
            case measure => first | (simp [intOf]; done) | (simp [intOf]; omega)
          | false =>
            refine wp_region_held_drew (S := Env wr []) (by kernel_rfl) (by (first | assumption | exact Env.step (by assumption) (by assumption) | exact Env.old (by assumption) _ | exact Env.drew hE | exact hE | exact Env.drew (by assumption) | exact Env.drew (Env.old (by assumption) _) | ((repeat first | refine Env.far0 ?_ (by assumption) _ | refine Env.far1 ?_ (by assumption) _ | refine Env.farA ?_ (by assumption) _); assumption))) (fun hHeld => ?_)
            refine hTake 0 (by kernel_rfl) (by kernel_rfl) (by kernel_rfl) (by decide) (by assumption) ?_; (intro oi hoi; simp only [List.getElem?_toArray, List.getElem?_cons_zero] at hoi; obtain rfl := Option.some.inj hoi; clear hoi); refine ⟨rfl, ?_⟩; apply Exists.intro; refine ⟨?_, fun _ _ _ h => h, ?_⟩; (intro w hSw; (try dsimp only at hSw); go_simp; (try with_reducible rfl)); (try simp only [Act.put, List.setIfInBounds_toArray, List.set_cons_zero, List.set_cons_succ]); refine hTake 1 (by kernel_rfl) (by kernel_rfl) (by kernel_rfl) (by decide) (by assumption) ?_; (intro oi hoi; simp only [List.getElem?_toArray, List.getElem?_cons_succ, List.getElem?_cons_zero] at hoi; obtain rfl := Option.some.inj hoi; clear hoi); refine ⟨rfl, ?_⟩; apply Exists.intro; refine ⟨?_, fun _ _ _ h => h, ?_⟩; (intro w hSw; (try dsimp only at hSw); go_simp; (try with_reducible rfl)); (try simp only [Act.put, List.setIfInBounds_toArray, List.set_cons_zero, List.set_cons_succ]); refine hTake 2 (by kernel_rfl) (by kernel_rfl) (by kernel_rfl) (by decide) (by assumption) ?_; (intro oi hoi; simp only [List.getElem?_toArray, List.getElem?_cons_succ, List.getElem?_cons_zero] at hoi; obtain rfl := Option.some.inj hoi; clear hoi); refine ⟨rfl, ?_⟩; apply Exists.intro; refine ⟨?_, fun _ _ _ h => h, ?_⟩; (intro w hSw; (try dsimp only at hSw); go_simp; (try with_reducible rfl)); (try simp only [Act.put, List.setIfInBounds_toArray, List.set_cons_zero, List.set_cons_succ]); refine hTake 3 (by kernel_rfl) (by kernel_rfl) (by kernel_rfl) (by decide) (by assumption) ?_; (intro oi hoi; simp only [List.getElem?_toArray, List.getElem?_cons_succ, List.getElem?_cons_zero] at hoi; obtain rfl := Option.some.inj hoi; clear hoi); refine ⟨rfl, ?_⟩; apply Exists.intro; refine ⟨?_, fun _ _ _ h => h, ?_⟩; (intro w hSw; (try dsimp only at hSw); go_simp; (try with_reducible rfl)); (try simp only [Act.put, List.setIfInBounds_toArray, List.set_cons_zero, List.set_cons_succ]); refine hTake 4 (by kernel_rfl) (by kernel_rfl) (by kernel_rfl) (by decide) (by assumption) ?_; (intro oi hoi; simp only [List.getElem?_toArray, List.getElem?_cons_succ, List.getElem?_cons_zero] at hoi; obtain rfl := Option.some.inj hoi; clear hoi); refine ⟨rfl, ?_⟩; apply Exists.intro; refine ⟨?_, fun _ _ _ h => h, ?_⟩; (intro w hSw; (try dsimp only at hSw); go_simp; (try with_reducible rfl)); (try simp only [Act.put, List.setIfInBounds_toArray, List.set_cons_zero, List.set_cons_succ]); refine hTake 5 (by kernel_rfl) (by kernel_rfl) (by kernel_rfl) (by decide) (by assumption) ?_; (intro oi hoi; simp only [List.getElem?_toArray, List.getElem?_cons_succ, List.getElem?_cons_zero] at hoi; obtain rfl := Option.some.inj hoi; clear hoi); refine ⟨rfl, ?_⟩; apply Exists.intro; refine ⟨?_, fun _ _ _ h => h, ?_⟩; (intro w hSw; (try dsimp only at hSw); go_simp; (try with_reducible rfl)); (try simp only [Act.put, List.setIfInBounds_toArray, List.set_cons_zero, List.set_cons_succ]); refine hTake 6 (by kernel_rfl) (by kernel_rfl) (by kernel_rfl) (by decide) (by assumption) ?_; (intro oi hoi; simp only [List.getElem?_toArray, List.getElem?_cons_succ, List.getElem?_cons_zero] at hoi; obtain rfl := Option.some.inj hoi; clear hoi); refine ⟨rfl, ?_⟩; apply Exists.intro; refine ⟨?_, fun _ _ _ h => h, ?_⟩; (intro w hSw; (try dsimp only at hSw); go_simp; (try with_reducible rfl)); (try simp only [Act.put, List.setIfInBounds_toArray, List.set_cons_zero, List.set_cons_succ]); refine hTake 7 (by kernel_rfl) (by kernel_rfl) (by kernel_rfl) (by decide) (by assumption) ?_; (intro oi hoi; simp only [List.getElem?_toArray, List.getElem?_cons_succ, List.getElem?_cons_zero] at hoi; obtain rfl := Option.some.inj hoi; clear hoi); refine ⟨rfl, ?_⟩; apply Exists.intro; refine ⟨?_, fun _ _ _ h => h, ?_⟩; (intro w hSw; (try dsimp only at hSw); go_simp; (try with_reducible rfl)); (try simp only [Act.put, List.setIfInBounds_toArray, List.set_cons_zero, List.set_cons_succ]); refine hTake 8 (by kernel_rfl) (by kernel_rfl) (by kernel_rfl) (by decide) (by assumption) ?_; (intro oi hoi; simp only [List.getElem?_toArray, List.getElem?_cons_succ, List.getElem?_cons_zero] at hoi; obtain rfl := Option.some.inj hoi; clear hoi); refine ⟨rfl, ?_⟩; apply Exists.intro; refine ⟨?_, fun _ _ _ h => h, ?_⟩; (intro w hSw; (try dsimp only at hSw); go_simp; (try with_reducible rfl)); (try simp only [Act.put, List.setIfInBounds_toArray, List.set_cons_zero, List.set_cons_succ]); refine hTake 9 (by kernel_rfl) (by kernel_rfl) (by kernel_rfl) (by decide) (by assumption) ?_; (intro oi hoi; simp only [List.getElem?_toArray, List.getElem?_cons_succ, List.getElem?_cons_zero] at hoi; obtain rfl := Option.some.inj hoi; clear hoi); refine ⟨rfl, ?_⟩; apply Exists.intro; refine ⟨?_, fun _ _ _ h => h, ?_⟩; (intro w hSw; (try dsimp only at hSw); go_simp; (try with_reducible rfl)); (try simp only [Act.put, List.setIfInBounds_toArray, List.set_cons_zero, List.set_cons_succ]); refine hTake 10 (by kernel_rfl) (by kernel_rfl) (by kernel_rfl) (by decide) (by assumption) ?_; (intro oi hoi; simp only [List.getElem?_toArray, List.getElem?_cons_succ, List.getElem?_cons_zero] at hoi; obtain rfl := Option.some.inj hoi; clear hoi); refine ⟨rfl, ?_⟩; apply Exists.intro; refine ⟨?_, fun _ _ _ h => h, ?_⟩; (intro w hSw; (try dsimp only at hSw); go_simp; (try with_reducible rfl)); (try simp only [Act.put, List.setIfInBounds_toArray, List.set_cons_zero, List.set_cons_succ]); refine hTake 11 (by kernel_rfl) (by kernel_rfl) (by kernel_rfl) (by decide) (by assumption) ?_; (intro oi hoi; simp only [List.getElem?_toArray, List.getElem?_cons_succ, List.getElem?_cons_zero] at hoi; obtain rfl := Option.some.inj hoi; clear hoi); refine ⟨rfl, ?_⟩; apply Exists.intro; refine ⟨?_, fun _ _ _ h => h, ?_⟩; (intro w hSw; (try dsimp only at hSw); go_simp; (try with_reducible rfl)); (try simp only [Act.put, List.setIfInBounds_toArray, List.set_cons_zero, List.set_cons_succ])
            refine hOnly 12 (by kernel_rfl) (by decide) ?_; (intro oi hoi; simp only [List.getElem?_toArray, List.getElem?_cons_succ, List.getElem?_cons_zero] at hoi; obtain rfl := Option.some.inj hoi; clear hoi); intro K hK; go_simp
            go_at_call 77
            refine (HLE.out _).mono ?_
            rintro r w3 ⟨rfl, hb3⟩
            have hEhb3 := Env.step hb3 (by assumption); (try (have hqhb3 := (by with_reducible first | exact Loc.below hb3 (Loc.new (Loc.nil _) _ _) | exact Loc.below hb3 (Loc.drew (Loc.new (Loc.nil _) _ _)) | exact Loc.below hb3 (by assumption : Loc _ [_])); (repeat rw [World.size_drew] at hqhb3); (repeat rw [World.size_alloc] at hqhb3); have hrhb3 := hqhb3; (repeat unfold Loc at hrhb3)))
            (refine hK.out _ _ (by (first | assumption | exact Env.step (by assumption) (by assumption) | exact Env.old (by assumption) _ | exact Env.drew hE | exact hE | exact Env.drew (by assumption) | exact Env.drew (Env.old (by assumption) _) | ((repeat first | refine Env.far0 ?_ (by assumption) _ | refine Env.far1 ?_ (by assumption) _ | refine Env.farA ?_ (by assumption) _); assumption))) (fun hHeld => ?_); clear hK K; (try simp only [Act.put, List.setIfInBounds_toArray, List.set_cons_zero, List.set_cons_succ]))
            refine hTake 13 (by kernel_rfl) (by kernel_rfl) (by kernel_rfl) (by decide) (by assumption) ?_; (intro oi hoi; simp only [List.getElem?_toArray, List.getElem?_cons_succ, List.getElem?_cons_zero] at hoi; obtain rfl := Option.some.inj hoi; clear hoi); refine ⟨rfl, ?_⟩; apply Exists.intro; refine ⟨?_, fun _ _ _ h => h, ?_⟩; (intro w hSw; (try dsimp only at hSw); go_simp; (try with_reducible rfl)); (try simp only [Act.put, List.setIfInBounds_toArray, List.set_cons_zero, List.set_cons_succ])
            refine wpAnyH_done (by kernel_rfl) ?_ _
            have hbx := hHeld.1
            have hox := ho.below hbx
            have hbX := below_then hb hbx
            have hI := plE_from HP2.out HDX.out (a := (p + 1)) (by rw [HSL.out]; omega) HGT.out (fun y' h hz => by rw [show p + 1 - 1 = p by omega, HY.out] at hz; obtain rfl := Option.some.inj hz; exact HDD.out.symm)
            have HI := Lib.hid hI; have HS1 := Lib.hid (show (S ++ [en0]).length = k + 1 by simp [HSL.out])
            clear hR hE hI ho hb
            go_wp2_with (at_builtin; refine wpList_append_fs rfl _ _ 27 rfl w.heap.size 43 i0 (.agg #[.int .i64 0, .int .i64 0, .int .i64 0, .int .i64 0, .int .i64 0, .int .i64 0, .int .i64 0, .int .i64 0, .int .i64 0, .int .i64 0, .int .i64 0]) 11 88 Try.underlying27 hi0 hz0 hz1 hz2 rfl (by decide) enenc enenc_len _ S en0 rfl (hox.alloc (.cells (enenc en0).toArray 43)) ⟨w3.heap.size, 0, none⟩ 1 rfl (en_new w3 en0 43 w3.heap.size rfl) (enenc_one [en0]) (by rw [HSL.out]; unfold maxLen; omega) (by rw [HSL.out]; omega) (by rw [World.size_alloc]; exact Nat.le_succ_of_le hbX.size) ?_; intro v' w7 own7 hgr7 hsf; obtain ⟨g7, c7, rfl, hcc7, hgl7⟩ := World.ownsRow.form own7 (by simp); rw [show (S ++ [en0]).length = k + 1 from HS1.out] at own7 ⊢)
            have hb7 : Below w.heap.size w w7 := (below_new hbX (.cells (enenc en0).toArray 43)).grown hgr7 (by rw [World.size_alloc]; exact Nat.le_succ_of_le hbX.size) (fun j hj => (World.ownsRow.lt hox j hj).1)
            have own8 : Own enenc 11 w7 w.heap.size 43 (.slice (some ⟨g7, 0, none⟩) (k + 1) c7) (S.take k ++ en0 :: S.drop k) := by
              rw [List.take_of_length_le (by rw [HSL.out]; exact Nat.le_refl _), List.drop_of_length_le (by rw [HSL.out]; exact Nat.le_refl _)]
              exact own7
            clear hgr7 hsf hox hbX hbx hHeld own7 hcc7 hgl7
            go_wp2_with fail
            go_loopw [6] (fun s wz => ∃ (kk : Nat) (z : En), s = .int .i64 kk ∧ (p + 1) ≤ kk ∧ kk ≤ k ∧ Own enenc 11 wz w.heap.size 43 (.slice (some ⟨g7, 0, none⟩) (k + 1) c7) (S.take kk ++ z :: S.drop kk) ∧ Below w.heap.size w wz) (fun s _ => (intOf s).toNat)
            case atStart => exact ⟨k, en0, rfl, by omega, Nat.le_refl _, own8, hb7⟩
            case round =>
              clear own8 hb7
              obtain ⟨kk, z, rfl, hak2, hkk, ho9, hb9⟩ := hrel
              obtain ⟨g0, -, hf0, -⟩ : g7 < wr.heap.size ∧ True ∧ (∀ o, wr.frozen? ⟨g7, o, none⟩ = false) ∧ True := ⟨(World.ownsRow.lt ho9 g7 rfl).2, trivial, own_free ho9, trivial⟩
              by_cases hgo : (p + 1) < kk
              · obtain ⟨p2, rfl⟩ : ∃ p2, kk = p2 + 1 := ⟨kk - 1, by omega⟩
                obtain ⟨y2, hy2⟩ : ∃ y2, S[p2]? = some y2 := ⟨_, List.getElem?_eq_getElem (by rw [HSL.out]; omega)⟩
                have hat : (S.take (p2 + 1) ++ z :: S.drop (p2 + 1))[p2]? = some y2 := by rw [mid_get (by rw [HSL.out]; omega)]; exact hy2
                have hzz : (S.take (p2 + 1) ++ z :: S.drop (p2 + 1))[p2 + 1]? = some z := mid_at (by rw [HSL.out]; omega)
                obtain ⟨-, q0, q1, q2, q3, q4, q5, q6, q7, q8, q9, q10⟩ := own_en ho9 hat
                obtain ⟨-, z0, z1, z2, z3, z4, z5, z6, z7, z8, z9, z10⟩ := own_en ho9 hzz
                have hst := own_put ho9 hzz (o := 0) (x' := y2) (us := [.int .i64 y2.k, .int .i64 y2.s, .int .i64 y2.e, .int .i64 y2.c1, .int .i64 y2.s1, .int .i64 y2.m1, .int .i64 y2.x1, .int .i64 y2.c2, .int .i64 y2.s2, .int .i64 y2.m2, .int .i64 y2.x2]) rfl (by simp)
                rw [mid_set (by rw [HSL.out]; omega), mid_back hy2] at hst
                have HST := Lib.hid hst
                have d5 : decide (((p + 1) : Int) < ((p2 + 1 : Nat) : Int)) = true := by simp <;> omega
                have d5' : decide ((p + 1) < p2 + 1) = true := by simp <;> omega
                have t1 : (0 : Int) ≤ (p2 : Int) := by omega
                have d6 : decide ((p : Int) < (p2 : Int)) = true := by simp <;> omega
                have d6' : decide (p < p2) = true := by simp <;> omega
                have d7 : decide ((p : Int) + 1 < (p2 : Int) + 1) = true := by simp <;> omega
                have hgo2 : (p + 1) ≤ p2 := by omega
                have t2 : (p2 : Int) < (k : Int) + 1 := by omega
                have t3 : IntKind.i64.wrap (p2 : Int) = (p2 : Int) := IntWalk.i64_in _ (by omega)
                have t4 : (p2 : Int) + 1 < (k : Int) + 1 := by omega
                have t5 : (0 : Int) ≤ (p2 : Int) + 1 := by omega
                clear hat hzz hst hy2 hgo
                go_wp2
                go_roundw
                case rel => exact ⟨p2, y2, by go_num, by omega, by omega, HST.out.1, hb9.grown HST.out.2 hb9.size (fun j hj => by cases hj; exact (World.ownsRow.lt ho9 g7 rfl).1)⟩
                case measure => first | (simp [intOf]; done) | (simp [intOf]; omega)
              · obtain rfl : kk = (p + 1) := by omega
                have d5 : decide (((p + 1) : Int) < ((p + 1) : Int)) = false := by simp
                have d5' : decide ((p + 1) < (p + 1)) = false := by simp
                have hzz : (S.take (p + 1) ++ z :: S.drop (p + 1))[(p + 1)]? = some z := mid_at (by rw [HSL.out]; omega)
                obtain ⟨-, z0, z1, z2, z3, z4, z5, z6, z7, z8, z9, z10⟩ := own_en ho9 hzz
                obtain ⟨b2, off2, e2', hbb2, r0, r1, r2, r3, r4, r5, r6, r7, r8, r9, r10⟩ := en_cells (rd_grown hr hb9) HX.out
                simp only [Option.some.injEq, Addr.mk.injEq, and_true] at e2'
                obtain ⟨rfl, rfl⟩ := e2'
                have hst := own_put ho9 hzz (o := 0) (x' := x) (us := [.int .i64 x.k, .int .i64 x.s, .int .i64 x.e, .int .i64 x.c1, .int .i64 x.s1, .int .i64 x.m1, .int .i64 x.x1, .int .i64 x.c2, .int .i64 x.s2, .int .i64 x.m2, .int .i64 x.x2]) rfl (by simp)
                rw [mid_set (by rw [HSL.out]; omega), ← HI.out, ← HNX.out] at hst
                have HST := Lib.hid hst
                have t2 : ((p + 1) : Int) < (k : Int) + 1 := by omega
                have t5 : (0 : Int) ≤ ((p + 1) : Int) := by omega
                clear hzz hst hgo
                go_wp2
                go_roundw
                case rel => exact ⟨k + 1, by go_num, by omega, HST.out.1, hb9.grown HST.out.2 hb9.size (fun j hj => by cases hj; exact (World.ownsRow.lt ho9 g7 rfl).1)⟩
                case measure => first | (simp [intOf]; done) | (simp [intOf]; omega)
    · obtain rfl : k = n := by omega
      have d1 : decide ((k : Int) < (k : Int)) = false := by simp
      have d1' : decide (k < k) = false := by simp
      have hfin : sortE l = S := by rw [HS.out, List.take_of_length_le (by rw [HLN.out]; exact Nat.le_refl _)]
      have HFIN := Lib.hid hfin
      clear hfin hlt
      go_wp2
      go_ret
      exact ⟨_, rfl, by rw [HFIN.out]; exact ho, hb⟩
end Go.Proofs.Ytbbdepeifdbbdaa
