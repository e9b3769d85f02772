/- The contract of the reference's Pushed (chapter 18): in the making. -/
import Derived.Test.YtffehibdeogjeaaTimersSwap
import Derived.Deep.RegionLaw
namespace Go.Proofs.Ytffehibdeogjeaa
open Go.RowKit

theorem step_append_list {P : Program} {w : World} {ops : Array Oper} {o : Oper} {a : Act} {K : Act → World → Prop} {Q : Exit → Act → World → Prop} {E : Prop} (hgd : o.guard = none) (s x : Operand) (t : TypeId)
    (ho : o.op = .call { callee := .builtin .append, args := #[s, x], argTypes := #[t, t] })
    (base : Nat) (e : TypeId) (i : TypeInfo) (z : Value) (size bytes : Nat) (ht : P.underlying t = some (.slice e)) (hi : P.info? e = some i) (hz : i.zero = some z)
    (hsize : i.size = size) (hby : i.bytes = bytes) (hzs : z.cells.size = size) (hsz : 0 < size)
    {α : Type} (enc : α → List Value) (henc : ∀ y, (enc y).length = size) (v : Value) (l ys : List α) (hs : a.eval s = v) (hown : Own enc size w base e v l)
    (ad : Addr) (n c : Nat) (hx : a.eval x = .slice (some ad) n c) (hnl : ys.length = n) (hnews : ∀ j u, (ys.flatMap enc)[j]? = some u → w.cell? (ad.add j) = some u) (h1 : ∀ u ∈ ys.flatMap enc, u.oneCell' = true)
    (h63 : l.length + n ≤ maxLen) (hbytes : (l.length + n) * bytes ≤ 140737488355328) (hbase : base ≤ w.heap.size)
    (h : ∀ v' w', Own enc size w' base e v' (l ++ ys) → w.grownBy w' v.ownBlock → Below base w w' → K (a.put o.dst v') w') :
    if Region.wanted o (yielded ops a.tmps) = true then Oper.wp P o a w K Q else E := by
  have hw : Region.wanted o (yielded ops a.tmps) = true := by simp [Region.wanted, hgd]
  rw [if_pos hw]
  obtain ⟨v', w', hrun, r1, r2, _⟩ := run_append_own (P := P) w base t o.type e i z size bytes ht hi hz hsize hby hzs hsz v l.length (l.flatMap enc) hown ad n c (ys.flatMap enc) (by rw [flat_length henc, hnl]) hnews h1 h63 hbytes hbase
  unfold Oper.wp
  simp [execOp, ho, resolve, invoke, builtin, hs, hx, hrun, Result.andThen]
  exact h v' w' (by unfold Own; simpa [hnl] using r1) r2 (below_of_grown r2 (fun k hk => (World.ownsRow.lt hown k hk).1) hbase)

theorem tm_new (w : World) (x : Tm) (t : TypeId) (g : Nat) (hg : g = w.heap.size) : ∀ j u, ([x].flatMap tenc)[j]? = some u → (w.alloc (.cells #[.int .i64 x.s, .int .i64 x.e, .int .i64 x.k] t)).cell? ((⟨g, 0, none⟩ : Addr).add j) = some u := by
  subst hg
  intro j u hj
  match j, hj with
  | 0, hj => simp [tenc] at hj; subst hj; simp [Addr.add]
  | 1, hj => simp [tenc] at hj; subst hj; simp [Addr.add]
  | 2, hj => simp [tenc] at hj; subst hj; simp [Addr.add]
theorem tm_far {W w1 : World} {row : Option Nat} {g : Nat} {x : List Value} (hg : W.grownBy w1 row) (h : ∀ j u, x[j]? = some u → W.cell? ((⟨g, 0, none⟩ : Addr).add j) = some u) (hlt : g < W.heap.size) (hne : some g ≠ row) :
    ∀ j u, x[j]? = some u → w1.cell? ((⟨g, 0, none⟩ : Addr).add j) = some u := fun j u hj => by
  have e : ((⟨g, 0, none⟩ : Addr).add j).block = g := by unfold Addr.add; split <;> rfl
  exact (hg.cell_far _ (by rw [e]; exact hlt) (by rw [e]; exact hne)).trans (h j u hj)
/-- A block of no cells is an empty row. -/
theorem own_empty {α : Type} {enc : α → List Value} {sz : Nat} {w : World} {base : Nat} {e : TypeId} {g : Nat} (hg : w.heap[g]? = some (.cells #[] e (0, 0))) (hb : base ≤ g) : Own enc sz w base e (.slice (some ⟨g, 0, none⟩) 0 0) ([] : List α) :=
  ⟨by simp, .inr ⟨g, 0, #[], rfl, hb, hg, Nat.le_refl _, by simp [maxLen], by simp, by simp⟩⟩

theorem rswapped_len (A : Option Addr) (c n : Nat) (l : List Tm) (i k : Nat) (w : World) (hl : l.length = n) (hi : i < n) (hk : k < n) (hik : i ≠ k) (hn : n ≤ 1099511627777) (hr : Rd tenc 3 w w.heap.size A l) :
    Calls Try.prog 105 #[.slice A n c, .int .i64 i, .int .i64 k] w fun e w' => ∃ v, e = .returned v ∧ Own tenc 3 w' w.heap.size 34 v (sw t0 l i k) ∧ Below w.heap.size w w' := by
  subst hl; exact rswapped_any A c l i k w hi hk hik hn hr
theorem up_stop {α : Type} {lt : α → α → Bool} {d : α} (m : Nat) (l : List α) {i : Nat} (h : ¬ (0 < i ∧ lt (l.getD i d) (l.getD ((i - 1) / 2) d) = true)) : up lt d m l i = l := by
  cases m with
  | zero => rfl
  | succ m => unfold up; rw [if_neg h]
theorem up_step {α : Type} {lt : α → α → Bool} {d : α} {m : Nat} {l : List α} {i : Nat} (h0 : 0 < i) (hm : i ≤ m) (h : lt (l.getD i d) (l.getD ((i - 1) / 2) d) = true) :
    ∃ m', up lt d m l i = up lt d m' (sw d l i ((i - 1) / 2)) ((i - 1) / 2) ∧ (i - 1) / 2 ≤ m' := by
  cases m with
  | zero => omega
  | succ m => exact ⟨m, by rw [up, if_pos ⟨h0, h⟩], by omega⟩

set_option maxHeartbeats 8000000 in
set_option maxRecDepth 100000 in
theorem rpushed_any (b off c : Nat) (l : List Tm) (t : Tm) (w : World) (hn : l.length ≤ 1099511627776) (hbB : b < w.heap.size) (hr : Rd tenc 3 w w.heap.size (some ⟨b, off, none⟩) l) :
    Calls Try.prog 77 #[.slice (some ⟨b, off, none⟩) l.length c, .agg #[.int .i64 t.s, .int .i64 t.e, .int .i64 t.k]] w fun e w' => ∃ v, e = .returned v ∧ Own tenc 3 w' w.heap.size 34 v (pushL tlt t0 l t) ∧ Below w.heap.size w w' := by
  obtain ⟨i0, hi0, hz0, hz1, hz2⟩ := info_parts tm_info
  obtain ⟨n, hn'⟩ : ∃ n, n = l.length := ⟨_, rfl⟩
  rw [← hn'] at hn ⊢
  have HN := Lib.hid hn'
  clear hn'
  have hL := (Loc.nil w).new [.int .i64 t.s, .int .i64 t.e, .int .i64 t.k] 34
  obtain ⟨lE, hE, hR⟩ := Env.abs (w0 := w) (below_new (Below.refl _ _) _) hL
  (repeat unfold Loc at hR)
  have hflat : ∀ X, Env w lE X → ∀ j u, (l.flatMap tenc)[j]? = some u → X.cell? ((⟨b, off, none⟩ : Addr).add j) = some u := fun X hX j u hj =>
    (hX.1.cell (p := (⟨b, off, none⟩ : Addr).add j) (by unfold Addr.add; split <;> simpa using hbB)).trans (rd_flat tenc_len hr j u hj)
  have HF := Lib.hid hflat
  clear hflat
  go_enter Try.func77, Try.ntmps77
  go_wp2_with fail
  refine wp_region_held_drew (S := Env w lE) (by kernel_rfl) (by (first | assumption | exact Env.step (by assumption) (by assumption) | exact Env.old (by assumption) _ | exact Env.drew hE | exact hE | exact Env.drew (by assumption) | exact Env.drew (Env.old (by assumption) _) | ((repeat first | refine Env.far0 ?_ (by assumption) _ | refine Env.far1 ?_ (by assumption) _ | refine Env.farA ?_ (by assumption) _); assumption))) (fun hHeld => ?_)
  refine hTake 1 (by kernel_rfl) (by kernel_rfl) (by kernel_rfl) (by decide) (by assumption) ?_; (intro oi hoi; simp only [List.getElem?_toArray, List.getElem?_cons_succ, List.getElem?_cons_zero] at hoi; obtain rfl := Option.some.inj hoi; clear hoi); refine ⟨rfl, ?_⟩; apply Exists.intro; refine ⟨?_, fun _ _ _ h => h, ?_⟩; (intro w hSw; (try dsimp only at hSw); go_simp; (try with_reducible rfl)); (try simp only [Act.put, List.setIfInBounds_toArray, List.set_cons_zero, List.set_cons_succ]); refine hTake 3 (by kernel_rfl) (by kernel_rfl) (by kernel_rfl) (by decide) (by assumption) ?_; (intro oi hoi; simp only [List.getElem?_toArray, List.getElem?_cons_succ, List.getElem?_cons_zero] at hoi; obtain rfl := Option.some.inj hoi; clear hoi); refine ⟨rfl, ?_⟩; apply Exists.intro; refine ⟨?_, fun _ _ _ h => h, ?_⟩; (intro w hSw; (try dsimp only at hSw); go_simp; (try with_reducible rfl)); (try simp only [Act.put, List.setIfInBounds_toArray, List.set_cons_zero, List.set_cons_succ])
  refine wpAnyH_ready (rs := [0, 4]) (by kernel_rfl) (by simp) ?_
  refine hCons 0 (by decide) ?_ (hCons 4 (by decide) ?_ AllReadyH.nil)
  · (intro oi hoi; simp only [List.getElem?_toArray, List.getElem?_cons_zero] at hoi; obtain rfl := Option.some.inj hoi; clear hoi); intro K hK
    go_simp
    (refine hK.out _ _ (by (first | assumption | exact Env.step (by assumption) (by assumption) | exact Env.old (by assumption) _ | exact Env.drew hE | exact hE | exact Env.drew (by assumption) | exact Env.drew (Env.old (by assumption) _) | ((repeat first | refine Env.far0 ?_ (by assumption) _ | refine Env.far1 ?_ (by assumption) _ | refine Env.farA ?_ (by assumption) _); assumption))) (fun hHeld => ?_); clear hK K; (try simp only [Act.put, List.setIfInBounds_toArray, List.set_cons_zero, List.set_cons_succ]))
    refine wpAnyH_ready (rs := [2, 4]) (by kernel_rfl) (by simp) ?_
    refine hCons 2 (by decide) ?_ (hCons 4 (by decide) ?_ AllReadyH.nil)
    · (intro oi hoi; simp only [List.getElem?_toArray, List.getElem?_cons_succ, List.getElem?_cons_zero] at hoi; obtain rfl := Option.some.inj hoi; clear hoi); intro K hK
      refine step_append_list rfl (.tmp 8) (.tmp 9) 22 rfl (w.heap.size + 1) 34 i0 (.agg #[.int .i64 0, .int .i64 0, .int .i64 0]) 3 24 Try.underlying22 hi0 hz0 hz1 hz2 rfl (by decide) tenc tenc_len (.slice (some ⟨w.heap.size + 1, 0, none⟩) 0 0) [] l rfl (own_empty (by have h := heap_alloc_new (w.alloc (.cells #[.int .i64 t.s, .int .i64 t.e, .int .i64 t.k] 34)) (.cells #[] 34); rw [World.size_alloc] at h; exact h) (by omega)) ⟨b, off, none⟩ n c rfl HN.out.symm (fun j u hj => HF.out _ (by assumption) j u hj) (tenc_one l) (by unfold maxLen; simp; omega) (by first | omega | (simp <;> omega)) (by first | omega | (simp <;> omega)) ?_
      intro v w1 hown hgrow hbel
      have hE1 := Env.kept hE (by assumption) (by rw [World.size_alloc]; exact hbel)
      have hs1 := hbel.size
      simp at hs1
      rw [List.nil_append] at hown
      clear hgrow
      refine hK.out _ _ hE1 (fun hHeld => ?_)
      clear hK K
      (try simp only [Act.put, List.setIfInBounds_toArray, List.set_cons_zero, List.set_cons_succ])
      refine hOnly 4 (by kernel_rfl) (by decide) ?_; (intro oi hoi; simp only [List.getElem?_toArray, List.getElem?_cons_succ, List.getElem?_cons_zero] at hoi; obtain rfl := Option.some.inj hoi; clear hoi); intro K hK; go_simp
      (refine hK.out _ _ (by (first | assumption | exact Env.step (by assumption) (by assumption) | exact Env.old (by assumption) _ | exact Env.drew hE | exact hE | exact Env.drew (by assumption) | exact Env.drew (Env.old (by assumption) _) | ((repeat first | refine Env.far0 ?_ (by assumption) _ | refine Env.far1 ?_ (by assumption) _ | refine Env.farA ?_ (by assumption) _); assumption))) (fun hHeld => ?_); clear hK K; (try simp only [Act.put, List.setIfInBounds_toArray, List.set_cons_zero, List.set_cons_succ]))
      refine wpAnyH_ready (rs := [5]) (by kernel_rfl) (by simp) ?_
      refine hCons 5 (by decide) ?_ AllReadyH.nil
      (intro oi hoi; simp only [List.getElem?_toArray, List.getElem?_cons_succ, List.getElem?_cons_zero] at hoi; obtain rfl := Option.some.inj hoi; clear hoi); intro K hK
      refine step_append_list rfl (.tmp 10) (.tmp 12) 22 rfl (w.heap.size + 1) 34 i0 (.agg #[.int .i64 0, .int .i64 0, .int .i64 0]) 3 24 Try.underlying22 hi0 hz0 hz1 hz2 rfl (by decide) tenc tenc_len v l [t] rfl (hown.alloc _) ⟨w1.heap.size, 0, none⟩ 1 1 rfl rfl (tm_new _ _ _ _ rfl) (tenc_one [t]) (by rw [← HN.out]; unfold maxLen; omega) (by rw [← HN.out]; omega) (by first | omega | (simp <;> omega)) ?_
      intro v2 w2 hown2 hgrow2 hbel2
      have hE2 := Env.kept hE (by assumption) (by rw [World.size_alloc]; exact hbel2)
      clear hgrow2
      refine hK.out _ _ hE2 (fun hHeld => ?_)
      clear hK K
      (try simp only [Act.put, List.setIfInBounds_toArray, List.set_cons_zero, List.set_cons_succ])
      refine hTake 6 (by kernel_rfl) (by kernel_rfl) (by kernel_rfl) (by decide) (by assumption) ?_; (intro oi hoi; simp only [List.getElem?_toArray, List.getElem?_cons_succ, List.getElem?_cons_zero] at hoi; obtain rfl := Option.some.inj hoi; clear hoi); refine ⟨rfl, ?_⟩; apply Exists.intro; refine ⟨?_, fun _ _ _ h => h, ?_⟩; (intro w hSw; (try dsimp only at hSw); go_simp; (try with_reducible rfl)); (try simp only [Act.put, List.setIfInBounds_toArray, List.set_cons_zero, List.set_cons_succ])
      refine wpAnyH_done (by kernel_rfl) ?_ _
      have hb2 := hE2.1
      clear hown hE1 hE2 hs1
      try clear hbel hbel2
      (try clear htm)
      clear HF hL hE hR hr
      have hown3 := hown2.mono (base' := w.heap.size) (by omega)
      have hlen : (l ++ [t]).length = n + 1 := by simp [HN.out]
      have HLEN := Lib.hid hlen
      clear hlen hown2
      go_wp2_with fail
      go_loopw [5, 6] (fun v i wr => ∃ (m i' : Nat) (l' : List Tm), i = .int .i64 i' ∧ i' ≤ m ∧ l'.length = n + 1 ∧ i' < n + 1 ∧ up tlt t0 m l' i' = pushL tlt t0 l t ∧ Own tenc 3 wr w.heap.size 34 v l' ∧ Below w.heap.size w wr) (fun _ i _ => (intOf i).toNat)
      case atStart => exact ⟨n, n, l ++ [t], rfl, Nat.le_refl _, HLEN.out, by omega, by rw [HN.out]; rfl, hown3, hb2⟩
      case round =>
        obtain ⟨m, i', l', rfl, him, hll, hin, hup, hown, hb⟩ := hrel
        clear hown3 hb2
        have HLL := Lib.hid hll
        have HUP := Lib.hid hup
        clear hll hup
        by_cases hi0' : i' = 0
        · have hz : up tlt t0 m l' i' = l' := up_stop _ _ (by omega)
          have HZ := Lib.hid hz
          clear hz
          subst hi0'
          rw [show ((0 : Nat) : Int) = 0 from rfl]
          go_wp2
          go_ret
          exact ⟨_, rfl, by rw [← HUP.out, HZ.out]; exact hown, hb⟩
        · obtain ⟨p, hp⟩ : ∃ p, p = (i' - 1) / 2 := ⟨_, rfl⟩
          have hpe : ((i' : Int) - 1) / 2 = (p : Int) := by omega
          have hpi : p < i' := by omega
          have j1 : (0 : Int) ≤ (i' : Int) := by omega
          have j2 : (i' : Int) < (n : Int) + 1 := by omega
          have j3 : (0 : Int) ≤ (p : Int) := by omega
          have j4 : (p : Int) < (n : Int) + 1 := by omega
          have HP := Lib.hid hp
          clear hp
          obtain ⟨x, hx⟩ : ∃ x, l'[i']? = some x := ⟨_, List.getElem?_eq_getElem (by rw [HLL.out]; exact hin)⟩
          obtain ⟨y, hy⟩ : ∃ y, l'[p]? = some y := ⟨_, List.getElem?_eq_getElem (by rw [HLL.out]; omega)⟩
          obtain ⟨g, cap, rfl, hbg, hglt⟩ := World.ownsRow.form hown (by rw [HLL.out]; omega)
          obtain ⟨p1, p2, p3, -⟩ := own_tm hown hx
          obtain ⟨q1, q2, q3, -⟩ := own_tm hown hy
          have GX := Lib.hid (getD_some (d := t0) hx)
          have GY := Lib.hid (getD_some (d := t0) hy)
          have hE : Env wr [] wr := ⟨Below.refl _ _, trivial⟩
          have hR : ∀ X, Env wr [] X → X.cell? ⟨g, i' * 3, none⟩ = some (.int .i64 x.s) ∧ X.cell? ⟨g, i' * 3 + 1, none⟩ = some (.int .i64 x.e) ∧ X.cell? ⟨g, i' * 3 + 2, none⟩ = some (.int .i64 x.k) ∧
              X.cell? ⟨g, p * 3, none⟩ = some (.int .i64 y.s) ∧ X.cell? ⟨g, p * 3 + 1, none⟩ = some (.int .i64 y.e) ∧ X.cell? ⟨g, p * 3 + 2, none⟩ = some (.int .i64 y.k) := fun X hX =>
            ⟨(hX.1.cell (p := ⟨g, i' * 3, none⟩) hglt).trans p1, (hX.1.cell (p := ⟨g, i' * 3 + 1, none⟩) hglt).trans p2, (hX.1.cell (p := ⟨g, i' * 3 + 2, none⟩) hglt).trans p3,
              (hX.1.cell (p := ⟨g, p * 3, none⟩) hglt).trans q1, (hX.1.cell (p := ⟨g, p * 3 + 1, none⟩) hglt).trans q2, (hX.1.cell (p := ⟨g, p * 3 + 2, none⟩) hglt).trans q3⟩
          rw [HLL.out]
          clear p1 p2 p3 q1 q2 q3 hx hy
          by_cases hlt : tlt x y = true
          · go_wp2
            refine wp_region_held_drew (S := Env wr []) (by kernel_rfl) (by (first | assumption | exact Env.step (by assumption) (by assumption) | exact Env.old (by assumption) _ | exact Env.drew hE | exact hE | exact Env.drew (by assumption) | exact Env.drew (Env.old (by assumption) _) | ((repeat first | refine Env.far0 ?_ (by assumption) _ | refine Env.far1 ?_ (by assumption) _ | refine Env.farA ?_ (by assumption) _); assumption))) (fun hHeld => ?_)
            refine hTake 0 (by kernel_rfl) (by kernel_rfl) (by kernel_rfl) (by decide) (by assumption) ?_; (intro oi hoi; simp only [List.getElem?_toArray, List.getElem?_cons_zero] at hoi; obtain rfl := Option.some.inj hoi; clear hoi); refine ⟨rfl, ?_⟩; apply Exists.intro; refine ⟨?_, fun _ _ _ h => h, ?_⟩; (intro w hSw; (try dsimp only at hSw); go_simp; (try with_reducible rfl)); (try simp only [Act.put, List.setIfInBounds_toArray, List.set_cons_zero, List.set_cons_succ]); refine hTake 1 (by kernel_rfl) (by kernel_rfl) (by kernel_rfl) (by decide) (by assumption) ?_; (intro oi hoi; simp only [List.getElem?_toArray, List.getElem?_cons_succ, List.getElem?_cons_zero] at hoi; obtain rfl := Option.some.inj hoi; clear hoi); refine ⟨rfl, ?_⟩; apply Exists.intro; refine ⟨?_, fun _ _ _ h => h, ?_⟩; (intro w hSw; (try dsimp only at hSw); go_simp; (try with_reducible rfl)); (try simp only [Act.put, List.setIfInBounds_toArray, List.set_cons_zero, List.set_cons_succ]); refine hTake 2 (by kernel_rfl) (by kernel_rfl) (by kernel_rfl) (by decide) (by assumption) ?_; (intro oi hoi; simp only [List.getElem?_toArray, List.getElem?_cons_succ, List.getElem?_cons_zero] at hoi; obtain rfl := Option.some.inj hoi; clear hoi); refine ⟨rfl, ?_⟩; apply Exists.intro; refine ⟨?_, fun _ _ _ h => h, ?_⟩; (intro w hSw; (try dsimp only at hSw); go_simp; (try with_reducible rfl)); (try simp only [Act.put, List.setIfInBounds_toArray, List.set_cons_zero, List.set_cons_succ]); refine hTake 3 (by kernel_rfl) (by kernel_rfl) (by kernel_rfl) (by decide) (by assumption) ?_; (intro oi hoi; simp only [List.getElem?_toArray, List.getElem?_cons_succ, List.getElem?_cons_zero] at hoi; obtain rfl := Option.some.inj hoi; clear hoi); refine ⟨rfl, ?_⟩; apply Exists.intro; refine ⟨?_, fun _ _ _ h => h, ?_⟩; (intro w hSw; (try dsimp only at hSw); go_simp; (try with_reducible rfl)); (try simp only [Act.put, List.setIfInBounds_toArray, List.set_cons_zero, List.set_cons_succ]); refine hTake 4 (by kernel_rfl) (by kernel_rfl) (by kernel_rfl) (by decide) (by assumption) ?_; (intro oi hoi; simp only [List.getElem?_toArray, List.getElem?_cons_succ, List.getElem?_cons_zero] at hoi; obtain rfl := Option.some.inj hoi; clear hoi); refine ⟨rfl, ?_⟩; apply Exists.intro; refine ⟨?_, fun _ _ _ h => h, ?_⟩; (intro w hSw; (try dsimp only at hSw); go_simp; (try with_reducible rfl)); (try simp only [Act.put, List.setIfInBounds_toArray, List.set_cons_zero, List.set_cons_succ]); refine hTake 5 (by kernel_rfl) (by kernel_rfl) (by kernel_rfl) (by decide) (by assumption) ?_; (intro oi hoi; simp only [List.getElem?_toArray, List.getElem?_cons_succ, List.getElem?_cons_zero] at hoi; obtain rfl := Option.some.inj hoi; clear hoi); refine ⟨rfl, ?_⟩; apply Exists.intro; refine ⟨?_, fun _ _ _ h => h, ?_⟩; (intro w hSw; (try dsimp only at hSw); go_simp; (try with_reducible rfl)); (try simp only [Act.put, List.setIfInBounds_toArray, List.set_cons_zero, List.set_cons_succ]); refine hTake 6 (by kernel_rfl) (by kernel_rfl) (by kernel_rfl) (by decide) (by assumption) ?_; (intro oi hoi; simp only [List.getElem?_toArray, List.getElem?_cons_succ, List.getElem?_cons_zero] at hoi; obtain rfl := Option.some.inj hoi; clear hoi); refine ⟨rfl, ?_⟩; apply Exists.intro; refine ⟨?_, fun _ _ _ h => h, ?_⟩; (intro w hSw; (try dsimp only at hSw); go_simp; (try with_reducible rfl)); (try simp only [Act.put, List.setIfInBounds_toArray, List.set_cons_zero, List.set_cons_succ]); refine hTake 7 (by kernel_rfl) (by kernel_rfl) (by kernel_rfl) (by decide) (by assumption) ?_; (intro oi hoi; simp only [List.getElem?_toArray, List.getElem?_cons_succ, List.getElem?_cons_zero] at hoi; obtain rfl := Option.some.inj hoi; clear hoi); refine ⟨rfl, ?_⟩; apply Exists.intro; refine ⟨?_, fun _ _ _ h => h, ?_⟩; (intro w hSw; (try dsimp only at hSw); go_simp; (try with_reducible rfl)); (try simp only [Act.put, List.setIfInBounds_toArray, List.set_cons_zero, List.set_cons_succ])
            refine hOnly 8 (by kernel_rfl) (by decide) ?_; (intro oi hoi; simp only [List.getElem?_toArray, List.getElem?_cons_succ, List.getElem?_cons_zero] at hoi; obtain rfl := Option.some.inj hoi; clear hoi); intro K hK; go_simp
            go_at_call 29
            refine (rtless_any x y _).mono ?_
            rintro e w3 ⟨rfl, hb3⟩
            have hEhb3 := Env.step hb3 (by assumption); (try (have hqhb3 := (by with_reducible first | exact Loc.below hb3 (Loc.new (Loc.nil _) _ _) | exact Loc.below hb3 (Loc.drew (Loc.new (Loc.nil _) _ _)) | exact Loc.below hb3 (by assumption : Loc _ [_])); (repeat rw [World.size_drew] at hqhb3); (repeat rw [World.size_alloc] at hqhb3); have hrhb3 := hqhb3; (repeat unfold Loc at hrhb3)))
            (refine hK.out _ _ (by (first | assumption | exact Env.step (by assumption) (by assumption) | exact Env.old (by assumption) _ | exact Env.drew hE | exact hE | exact Env.drew (by assumption) | exact Env.drew (Env.old (by assumption) _) | ((repeat first | refine Env.far0 ?_ (by assumption) _ | refine Env.far1 ?_ (by assumption) _ | refine Env.farA ?_ (by assumption) _); assumption))) (fun hHeld => ?_); clear hK K; (try simp only [Act.put, List.setIfInBounds_toArray, List.set_cons_zero, List.set_cons_succ]))
            refine hTake 9 (by kernel_rfl) (by kernel_rfl) (by kernel_rfl) (by decide) (by assumption) ?_; (intro oi hoi; simp only [List.getElem?_toArray, List.getElem?_cons_succ, List.getElem?_cons_zero] at hoi; obtain rfl := Option.some.inj hoi; clear hoi); refine ⟨rfl, ?_⟩; apply Exists.intro; refine ⟨?_, fun _ _ _ h => h, ?_⟩; (intro w hSw; (try dsimp only at hSw); go_simp; (try with_reducible rfl)); (try simp only [Act.put, List.setIfInBounds_toArray, List.set_cons_zero, List.set_cons_succ])
            refine wpAnyH_done (by kernel_rfl) ?_ _
            obtain ⟨m2, e1, e2⟩ := up_step (lt := tlt) (d := t0) (by omega) him (by rw [GX.out, ← HP.out, GY.out]; exact hlt)
            rw [← HP.out] at e1 e2
            have E1 := Lib.hid e1
            clear e1
            have hrd := Own.rd (enc := tenc) (sz := 3) tenc_len (hown.below hHeld.1)
            have hb3' := below_then hb hHeld.1
            go_wp2_with (go_at_call 105; refine (rswapped_len (some ⟨g, 0, none⟩) cap (n + 1) l' i' p _ HLL.out hin (by omega) (by omega) (by omega) hrd).mono ?_; rintro e w4 ⟨v4, rfl, hown4, hb4⟩)
            go_roundw
            case rel => exact ⟨m2, p, sw t0 l' i' p, rfl, e2, by rw [sw_length, HLL.out], by omega, by rw [← E1.out, HUP.out], hown4.mono hb3'.size, below_then hb3' hb4⟩
            case measure => simp [intOf]; omega
          · have hlt' : tlt x y = false := by simpa using hlt
            have hz : up tlt t0 m l' i' = l' := up_stop _ _ (by rw [GX.out, ← HP.out, GY.out]; intro h; exact hlt h.2)
            have HZ := Lib.hid hz
            clear hz hlt
            go_wp2
            refine wp_region_held_drew (S := Env wr []) (by kernel_rfl) (by (first | assumption | exact Env.step (by assumption) (by assumption) | exact Env.old (by assumption) _ | exact Env.drew hE | exact hE | exact Env.drew (by assumption) | exact Env.drew (Env.old (by assumption) _) | ((repeat first | refine Env.far0 ?_ (by assumption) _ | refine Env.far1 ?_ (by assumption) _ | refine Env.farA ?_ (by assumption) _); assumption))) (fun hHeld => ?_)
            refine hTake 0 (by kernel_rfl) (by kernel_rfl) (by kernel_rfl) (by decide) (by assumption) ?_; (intro oi hoi; simp only [List.getElem?_toArray, List.getElem?_cons_zero] at hoi; obtain rfl := Option.some.inj hoi; clear hoi); refine ⟨rfl, ?_⟩; apply Exists.intro; refine ⟨?_, fun _ _ _ h => h, ?_⟩; (intro w hSw; (try dsimp only at hSw); go_simp; (try with_reducible rfl)); (try simp only [Act.put, List.setIfInBounds_toArray, List.set_cons_zero, List.set_cons_succ]); refine hTake 1 (by kernel_rfl) (by kernel_rfl) (by kernel_rfl) (by decide) (by assumption) ?_; (intro oi hoi; simp only [List.getElem?_toArray, List.getElem?_cons_succ, List.getElem?_cons_zero] at hoi; obtain rfl := Option.some.inj hoi; clear hoi); refine ⟨rfl, ?_⟩; apply Exists.intro; refine ⟨?_, fun _ _ _ h => h, ?_⟩; (intro w hSw; (try dsimp only at hSw); go_simp; (try with_reducible rfl)); (try simp only [Act.put, List.setIfInBounds_toArray, List.set_cons_zero, List.set_cons_succ]); refine hTake 2 (by kernel_rfl) (by kernel_rfl) (by kernel_rfl) (by decide) (by assumption) ?_; (intro oi hoi; simp only [List.getElem?_toArray, List.getElem?_cons_succ, List.getElem?_cons_zero] at hoi; obtain rfl := Option.some.inj hoi; clear hoi); refine ⟨rfl, ?_⟩; apply Exists.intro; refine ⟨?_, fun _ _ _ h => h, ?_⟩; (intro w hSw; (try dsimp only at hSw); go_simp; (try with_reducible rfl)); (try simp only [Act.put, List.setIfInBounds_toArray, List.set_cons_zero, List.set_cons_succ]); refine hTake 3 (by kernel_rfl) (by kernel_rfl) (by kernel_rfl) (by decide) (by assumption) ?_; (intro oi hoi; simp only [List.getElem?_toArray, List.getElem?_cons_succ, List.getElem?_cons_zero] at hoi; obtain rfl := Option.some.inj hoi; clear hoi); refine ⟨rfl, ?_⟩; apply Exists.intro; refine ⟨?_, fun _ _ _ h => h, ?_⟩; (intro w hSw; (try dsimp only at hSw); go_simp; (try with_reducible rfl)); (try simp only [Act.put, List.setIfInBounds_toArray, List.set_cons_zero, List.set_cons_succ]); refine hTake 4 (by kernel_rfl) (by kernel_rfl) (by kernel_rfl) (by decide) (by assumption) ?_; (intro oi hoi; simp only [List.getElem?_toArray, List.getElem?_cons_succ, List.getElem?_cons_zero] at hoi; obtain rfl := Option.some.inj hoi; clear hoi); refine ⟨rfl, ?_⟩; apply Exists.intro; refine ⟨?_, fun _ _ _ h => h, ?_⟩; (intro w hSw; (try dsimp only at hSw); go_simp; (try with_reducible rfl)); (try simp only [Act.put, List.setIfInBounds_toArray, List.set_cons_zero, List.set_cons_succ]); refine hTake 5 (by kernel_rfl) (by kernel_rfl) (by kernel_rfl) (by decide) (by assumption) ?_; (intro oi hoi; simp only [List.getElem?_toArray, List.getElem?_cons_succ, List.getElem?_cons_zero] at hoi; obtain rfl := Option.some.inj hoi; clear hoi); refine ⟨rfl, ?_⟩; apply Exists.intro; refine ⟨?_, fun _ _ _ h => h, ?_⟩; (intro w hSw; (try dsimp only at hSw); go_simp; (try with_reducible rfl)); (try simp only [Act.put, List.setIfInBounds_toArray, List.set_cons_zero, List.set_cons_succ]); refine hTake 6 (by kernel_rfl) (by kernel_rfl) (by kernel_rfl) (by decide) (by assumption) ?_; (intro oi hoi; simp only [List.getElem?_toArray, List.getElem?_cons_succ, List.getElem?_cons_zero] at hoi; obtain rfl := Option.some.inj hoi; clear hoi); refine ⟨rfl, ?_⟩; apply Exists.intro; refine ⟨?_, fun _ _ _ h => h, ?_⟩; (intro w hSw; (try dsimp only at hSw); go_simp; (try with_reducible rfl)); (try simp only [Act.put, List.setIfInBounds_toArray, List.set_cons_zero, List.set_cons_succ]); refine hTake 7 (by kernel_rfl) (by kernel_rfl) (by kernel_rfl) (by decide) (by assumption) ?_; (intro oi hoi; simp only [List.getElem?_toArray, List.getElem?_cons_succ, List.getElem?_cons_zero] at hoi; obtain rfl := Option.some.inj hoi; clear hoi); refine ⟨rfl, ?_⟩; apply Exists.intro; refine ⟨?_, fun _ _ _ h => h, ?_⟩; (intro w hSw; (try dsimp only at hSw); go_simp; (try with_reducible rfl)); (try simp only [Act.put, List.setIfInBounds_toArray, List.set_cons_zero, List.set_cons_succ])
            refine hOnly 8 (by kernel_rfl) (by decide) ?_; (intro oi hoi; simp only [List.getElem?_toArray, List.getElem?_cons_succ, List.getElem?_cons_zero] at hoi; obtain rfl := Option.some.inj hoi; clear hoi); intro K hK; go_simp
            go_at_call 29
            refine (rtless_any x y _).mono ?_
            rintro e w3 ⟨rfl, hb3⟩
            have hEhb3 := Env.step hb3 (by assumption); (try (have hqhb3 := (by with_reducible first | exact Loc.below hb3 (Loc.new (Loc.nil _) _ _) | exact Loc.below hb3 (Loc.drew (Loc.new (Loc.nil _) _ _)) | exact Loc.below hb3 (by assumption : Loc _ [_])); (repeat rw [World.size_drew] at hqhb3); (repeat rw [World.size_alloc] at hqhb3); have hrhb3 := hqhb3; (repeat unfold Loc at hrhb3)))
            (refine hK.out _ _ (by (first | assumption | exact Env.step (by assumption) (by assumption) | exact Env.old (by assumption) _ | exact Env.drew hE | exact hE | exact Env.drew (by assumption) | exact Env.drew (Env.old (by assumption) _) | ((repeat first | refine Env.far0 ?_ (by assumption) _ | refine Env.far1 ?_ (by assumption) _ | refine Env.farA ?_ (by assumption) _); assumption))) (fun hHeld => ?_); clear hK K; (try simp only [Act.put, List.setIfInBounds_toArray, List.set_cons_zero, List.set_cons_succ]))
            refine hTake 9 (by kernel_rfl) (by kernel_rfl) (by kernel_rfl) (by decide) (by assumption) ?_; (intro oi hoi; simp only [List.getElem?_toArray, List.getElem?_cons_succ, List.getElem?_cons_zero] at hoi; obtain rfl := Option.some.inj hoi; clear hoi); refine ⟨rfl, ?_⟩; apply Exists.intro; refine ⟨?_, fun _ _ _ h => h, ?_⟩; (intro w hSw; (try dsimp only at hSw); go_simp; (try with_reducible rfl)); (try simp only [Act.put, List.setIfInBounds_toArray, List.set_cons_zero, List.set_cons_succ])
            refine wpAnyH_done (by kernel_rfl) ?_ _
            have hown5 := hown.below hHeld.1
            have hb3' := below_then hb hHeld.1
            rw [HLL.out] at hown5
            go_wp2
            go_ret
            exact ⟨_, rfl, by rw [← HUP.out, HZ.out]; exact hown5, hb3'⟩
    · (intro oi hoi; simp only [List.getElem?_toArray, List.getElem?_cons_succ, List.getElem?_cons_zero] at hoi; obtain rfl := Option.some.inj hoi; clear hoi); intro K hK
      go_simp
      (refine hK.out _ _ (by (first | assumption | exact Env.step (by assumption) (by assumption) | exact Env.old (by assumption) _ | exact Env.drew hE | exact hE | exact Env.drew (by assumption) | exact Env.drew (Env.old (by assumption) _) | ((repeat first | refine Env.far0 ?_ (by assumption) _ | refine Env.far1 ?_ (by assumption) _ | refine Env.farA ?_ (by assumption) _); assumption))) (fun hHeld => ?_); clear hK K; (try simp only [Act.put, List.setIfInBounds_toArray, List.set_cons_zero, List.set_cons_succ]))
      refine wpAnyH_ready (rs := [2]) (by kernel_rfl) (by simp) ?_
      refine hCons 2 (by decide) ?_ AllReadyH.nil
      (intro oi hoi; simp only [List.getElem?_toArray, List.getElem?_cons_succ, List.getElem?_cons_zero] at hoi; obtain rfl := Option.some.inj hoi; clear hoi); intro K hK
      refine step_append_list rfl (.tmp 8) (.tmp 9) 22 rfl (w.heap.size + 1) 34 i0 (.agg #[.int .i64 0, .int .i64 0, .int .i64 0]) 3 24 Try.underlying22 hi0 hz0 hz1 hz2 rfl (by decide) tenc tenc_len (.slice (some ⟨w.heap.size + 1, 0, none⟩) 0 0) [] l rfl (own_empty (by have h := heap_alloc_new (w.alloc (.cells #[.int .i64 t.s, .int .i64 t.e, .int .i64 t.k] 34)) (.cells #[] 34); rw [World.size_alloc] at h; exact (Below.heap_alloc _ _ _ (by simp)).trans h) (by omega)) ⟨b, off, none⟩ n c rfl HN.out.symm (fun j u hj => HF.out _ (by assumption) j u hj) (tenc_one l) (by unfold maxLen; simp; omega) (by first | omega | (simp <;> omega)) (by first | omega | (simp <;> omega)) ?_
      intro v w1 hown hgrow hbel
      have hE1 := Env.kept hE (by assumption) (by rw [World.size_alloc]; exact hbel)
      have hs1 := hbel.size
      simp at hs1
      rw [List.nil_append] at hown
      have htm := tm_far hgrow (tm_new ((w.alloc (.cells #[.int .i64 t.s, .int .i64 t.e, .int .i64 t.k] 34)).alloc (.cells #[] 34)) t 34 (w.heap.size + 2) (by simp)) (by simp) (by simp [Value.ownBlock]); clear hgrow
      refine hK.out _ _ hE1 (fun hHeld => ?_)
      clear hK K
      (try simp only [Act.put, List.setIfInBounds_toArray, List.set_cons_zero, List.set_cons_succ])
      refine wpAnyH_ready (rs := [5]) (by kernel_rfl) (by simp) ?_
      refine hCons 5 (by decide) ?_ AllReadyH.nil
      (intro oi hoi; simp only [List.getElem?_toArray, List.getElem?_cons_succ, List.getElem?_cons_zero] at hoi; obtain rfl := Option.some.inj hoi; clear hoi); intro K hK
      refine step_append_list rfl (.tmp 10) (.tmp 12) 22 rfl (w.heap.size + 1) 34 i0 (.agg #[.int .i64 0, .int .i64 0, .int .i64 0]) 3 24 Try.underlying22 hi0 hz0 hz1 hz2 rfl (by decide) tenc tenc_len v l [t] rfl hown ⟨w.heap.size + 2, 0, none⟩ 1 1 rfl rfl htm (tenc_one [t]) (by rw [← HN.out]; unfold maxLen; omega) (by rw [← HN.out]; omega) (by first | omega | (simp <;> omega)) ?_
      intro v2 w2 hown2 hgrow2 hbel2
      have hE2 := Env.kept hE (by assumption) (by rw [World.size_alloc]; exact hbel2)
      clear hgrow2
      refine hK.out _ _ hE2 (fun hHeld => ?_)
      clear hK K
      (try simp only [Act.put, List.setIfInBounds_toArray, List.set_cons_zero, List.set_cons_succ])
      refine hTake 6 (by kernel_rfl) (by kernel_rfl) (by kernel_rfl) (by decide) (by assumption) ?_; (intro oi hoi; simp only [List.getElem?_toArray, List.getElem?_cons_succ, List.getElem?_cons_zero] at hoi; obtain rfl := Option.some.inj hoi; clear hoi); refine ⟨rfl, ?_⟩; apply Exists.intro; refine ⟨?_, fun _ _ _ h => h, ?_⟩; (intro w hSw; (try dsimp only at hSw); go_simp; (try with_reducible rfl)); (try simp only [Act.put, List.setIfInBounds_toArray, List.set_cons_zero, List.set_cons_succ])
      refine wpAnyH_done (by kernel_rfl) ?_ _
      have hb2 := hE2.1
      clear hown hE1 hE2 hs1
      try clear hbel hbel2
      (try clear htm)
      clear HF hL hE hR hr
      have hown3 := hown2.mono (base' := w.heap.size) (by omega)
      have hlen : (l ++ [t]).length = n + 1 := by simp [HN.out]
      have HLEN := Lib.hid hlen
      clear hlen hown2
      go_wp2_with fail
      go_loopw [5, 6] (fun v i wr => ∃ (m i' : Nat) (l' : List Tm), i = .int .i64 i' ∧ i' ≤ m ∧ l'.length = n + 1 ∧ i' < n + 1 ∧ up tlt t0 m l' i' = pushL tlt t0 l t ∧ Own tenc 3 wr w.heap.size 34 v l' ∧ Below w.heap.size w wr) (fun _ i _ => (intOf i).toNat)
      case atStart => exact ⟨n, n, l ++ [t], rfl, Nat.le_refl _, HLEN.out, by omega, by rw [HN.out]; rfl, hown3, hb2⟩
      case round =>
        obtain ⟨m, i', l', rfl, him, hll, hin, hup, hown, hb⟩ := hrel
        clear hown3 hb2
        have HLL := Lib.hid hll
        have HUP := Lib.hid hup
        clear hll hup
        by_cases hi0' : i' = 0
        · have hz : up tlt t0 m l' i' = l' := up_stop _ _ (by omega)
          have HZ := Lib.hid hz
          clear hz
          subst hi0'
          rw [show ((0 : Nat) : Int) = 0 from rfl]
          go_wp2
          go_ret
          exact ⟨_, rfl, by rw [← HUP.out, HZ.out]; exact hown, hb⟩
        · obtain ⟨p, hp⟩ : ∃ p, p = (i' - 1) / 2 := ⟨_, rfl⟩
          have hpe : ((i' : Int) - 1) / 2 = (p : Int) := by omega
          have hpi : p < i' := by omega
          have j1 : (0 : Int) ≤ (i' : Int) := by omega
          have j2 : (i' : Int) < (n : Int) + 1 := by omega
          have j3 : (0 : Int) ≤ (p : Int) := by omega
          have j4 : (p : Int) < (n : Int) + 1 := by omega
          have HP := Lib.hid hp
          clear hp
          obtain ⟨x, hx⟩ : ∃ x, l'[i']? = some x := ⟨_, List.getElem?_eq_getElem (by rw [HLL.out]; exact hin)⟩
          obtain ⟨y, hy⟩ : ∃ y, l'[p]? = some y := ⟨_, List.getElem?_eq_getElem (by rw [HLL.out]; omega)⟩
          obtain ⟨g, cap, rfl, hbg, hglt⟩ := World.ownsRow.form hown (by rw [HLL.out]; omega)
          obtain ⟨p1, p2, p3, -⟩ := own_tm hown hx
          obtain ⟨q1, q2, q3, -⟩ := own_tm hown hy
          have GX := Lib.hid (getD_some (d := t0) hx)
          have GY := Lib.hid (getD_some (d := t0) hy)
          have hE : Env wr [] wr := ⟨Below.refl _ _, trivial⟩
          have hR : ∀ X, Env wr [] X → X.cell? ⟨g, i' * 3, none⟩ = some (.int .i64 x.s) ∧ X.cell? ⟨g, i' * 3 + 1, none⟩ = some (.int .i64 x.e) ∧ X.cell? ⟨g, i' * 3 + 2, none⟩ = some (.int .i64 x.k) ∧
              X.cell? ⟨g, p * 3, none⟩ = some (.int .i64 y.s) ∧ X.cell? ⟨g, p * 3 + 1, none⟩ = some (.int .i64 y.e) ∧ X.cell? ⟨g, p * 3 + 2, none⟩ = some (.int .i64 y.k) := fun X hX =>
            ⟨(hX.1.cell (p := ⟨g, i' * 3, none⟩) hglt).trans p1, (hX.1.cell (p := ⟨g, i' * 3 + 1, none⟩) hglt).trans p2, (hX.1.cell (p := ⟨g, i' * 3 + 2, none⟩) hglt).trans p3,
              (hX.1.cell (p := ⟨g, p * 3, none⟩) hglt).trans q1, (hX.1.cell (p := ⟨g, p * 3 + 1, none⟩) hglt).trans q2, (hX.1.cell (p := ⟨g, p * 3 + 2, none⟩) hglt).trans q3⟩
          rw [HLL.out]
          clear p1 p2 p3 q1 q2 q3 hx hy
          by_cases hlt : tlt x y = true
          · go_wp2
            refine wp_region_held_drew (S := Env wr []) (by kernel_rfl) (by (first | assumption | exact Env.step (by assumption) (by assumption) | exact Env.old (by assumption) _ | exact Env.drew hE | exact hE | exact Env.drew (by assumption) | exact Env.drew (Env.old (by assumption) _) | ((repeat first | refine Env.far0 ?_ (by assumption) _ | refine Env.far1 ?_ (by assumption) _ | refine Env.farA ?_ (by assumption) _); assumption))) (fun hHeld => ?_)
            refine hTake 0 (by kernel_rfl) (by kernel_rfl) (by kernel_rfl) (by decide) (by assumption) ?_; (intro oi hoi; simp only [List.getElem?_toArray, List.getElem?_cons_zero] at hoi; obtain rfl := Option.some.inj hoi; clear hoi); refine ⟨rfl, ?_⟩; apply Exists.intro; refine ⟨?_, fun _ _ _ h => h, ?_⟩; (intro w hSw; (try dsimp only at hSw); go_simp; (try with_reducible rfl)); (try simp only [Act.put, List.setIfInBounds_toArray, List.set_cons_zero, List.set_cons_succ]); refine hTake 1 (by kernel_rfl) (by kernel_rfl) (by kernel_rfl) (by decide) (by assumption) ?_; (intro oi hoi; simp only [List.getElem?_toArray, List.getElem?_cons_succ, List.getElem?_cons_zero] at hoi; obtain rfl := Option.some.inj hoi; clear hoi); refine ⟨rfl, ?_⟩; apply Exists.intro; refine ⟨?_, fun _ _ _ h => h, ?_⟩; (intro w hSw; (try dsimp only at hSw); go_simp; (try with_reducible rfl)); (try simp only [Act.put, List.setIfInBounds_toArray, List.set_cons_zero, List.set_cons_succ]); refine hTake 2 (by kernel_rfl) (by kernel_rfl) (by kernel_rfl) (by decide) (by assumption) ?_; (intro oi hoi; simp only [List.getElem?_toArray, List.getElem?_cons_succ, List.getElem?_cons_zero] at hoi; obtain rfl := Option.some.inj hoi; clear hoi); refine ⟨rfl, ?_⟩; apply Exists.intro; refine ⟨?_, fun _ _ _ h => h, ?_⟩; (intro w hSw; (try dsimp only at hSw); go_simp; (try with_reducible rfl)); (try simp only [Act.put, List.setIfInBounds_toArray, List.set_cons_zero, List.set_cons_succ]); refine hTake 3 (by kernel_rfl) (by kernel_rfl) (by kernel_rfl) (by decide) (by assumption) ?_; (intro oi hoi; simp only [List.getElem?_toArray, List.getElem?_cons_succ, List.getElem?_cons_zero] at hoi; obtain rfl := Option.some.inj hoi; clear hoi); refine ⟨rfl, ?_⟩; apply Exists.intro; refine ⟨?_, fun _ _ _ h => h, ?_⟩; (intro w hSw; (try dsimp only at hSw); go_simp; (try with_reducible rfl)); (try simp only [Act.put, List.setIfInBounds_toArray, List.set_cons_zero, List.set_cons_succ]); refine hTake 4 (by kernel_rfl) (by kernel_rfl) (by kernel_rfl) (by decide) (by assumption) ?_; (intro oi hoi; simp only [List.getElem?_toArray, List.getElem?_cons_succ, List.getElem?_cons_zero] at hoi; obtain rfl := Option.some.inj hoi; clear hoi); refine ⟨rfl, ?_⟩; apply Exists.intro; refine ⟨?_, fun _ _ _ h => h, ?_⟩; (intro w hSw; (try dsimp only at hSw); go_simp; (try with_reducible rfl)); (try simp only [Act.put, List.setIfInBounds_toArray, List.set_cons_zero, List.set_cons_succ]); refine hTake 5 (by kernel_rfl) (by kernel_rfl) (by kernel_rfl) (by decide) (by assumption) ?_; (intro oi hoi; simp only [List.getElem?_toArray, List.getElem?_cons_succ, List.getElem?_cons_zero] at hoi; obtain rfl := Option.some.inj hoi; clear hoi); refine ⟨rfl, ?_⟩; apply Exists.intro; refine ⟨?_, fun _ _ _ h => h, ?_⟩; (intro w hSw; (try dsimp only at hSw); go_simp; (try with_reducible rfl)); (try simp only [Act.put, List.setIfInBounds_toArray, List.set_cons_zero, List.set_cons_succ]); refine hTake 6 (by kernel_rfl) (by kernel_rfl) (by kernel_rfl) (by decide) (by assumption) ?_; (intro oi hoi; simp only [List.getElem?_toArray, List.getElem?_cons_succ, List.getElem?_cons_zero] at hoi; obtain rfl := Option.some.inj hoi; clear hoi); refine ⟨rfl, ?_⟩; apply Exists.intro; refine ⟨?_, fun _ _ _ h => h, ?_⟩; (intro w hSw; (try dsimp only at hSw); go_simp; (try with_reducible rfl)); (try simp only [Act.put, List.setIfInBounds_toArray, List.set_cons_zero, List.set_cons_succ]); refine hTake 7 (by kernel_rfl) (by kernel_rfl) (by kernel_rfl) (by decide) (by assumption) ?_; (intro oi hoi; simp only [List.getElem?_toArray, List.getElem?_cons_succ, List.getElem?_cons_zero] at hoi; obtain rfl := Option.some.inj hoi; clear hoi); refine ⟨rfl, ?_⟩; apply Exists.intro; refine ⟨?_, fun _ _ _ h => h, ?_⟩; (intro w hSw; (try dsimp only at hSw); go_simp; (try with_reducible rfl)); (try simp only [Act.put, List.setIfInBounds_toArray, List.set_cons_zero, List.set_cons_succ])
            refine hOnly 8 (by kernel_rfl) (by decide) ?_; (intro oi hoi; simp only [List.getElem?_toArray, List.getElem?_cons_succ, List.getElem?_cons_zero] at hoi; obtain rfl := Option.some.inj hoi; clear hoi); intro K hK; go_simp
            go_at_call 29
            refine (rtless_any x y _).mono ?_
            rintro e w3 ⟨rfl, hb3⟩
            have hEhb3 := Env.step hb3 (by assumption); (try (have hqhb3 := (by with_reducible first | exact Loc.below hb3 (Loc.new (Loc.nil _) _ _) | exact Loc.below hb3 (Loc.drew (Loc.new (Loc.nil _) _ _)) | exact Loc.below hb3 (by assumption : Loc _ [_])); (repeat rw [World.size_drew] at hqhb3); (repeat rw [World.size_alloc] at hqhb3); have hrhb3 := hqhb3; (repeat unfold Loc at hrhb3)))
            (refine hK.out _ _ (by (first | assumption | exact Env.step (by assumption) (by assumption) | exact Env.old (by assumption) _ | exact Env.drew hE | exact hE | exact Env.drew (by assumption) | exact Env.drew (Env.old (by assumption) _) | ((repeat first | refine Env.far0 ?_ (by assumption) _ | refine Env.far1 ?_ (by assumption) _ | refine Env.farA ?_ (by assumption) _); assumption))) (fun hHeld => ?_); clear hK K; (try simp only [Act.put, List.setIfInBounds_toArray, List.set_cons_zero, List.set_cons_succ]))
            refine hTake 9 (by kernel_rfl) (by kernel_rfl) (by kernel_rfl) (by decide) (by assumption) ?_; (intro oi hoi; simp only [List.getElem?_toArray, List.getElem?_cons_succ, List.getElem?_cons_zero] at hoi; obtain rfl := Option.some.inj hoi; clear hoi); refine ⟨rfl, ?_⟩; apply Exists.intro; refine ⟨?_, fun _ _ _ h => h, ?_⟩; (intro w hSw; (try dsimp only at hSw); go_simp; (try with_reducible rfl)); (try simp only [Act.put, List.setIfInBounds_toArray, List.set_cons_zero, List.set_cons_succ])
            refine wpAnyH_done (by kernel_rfl) ?_ _
            obtain ⟨m2, e1, e2⟩ := up_step (lt := tlt) (d := t0) (by omega) him (by rw [GX.out, ← HP.out, GY.out]; exact hlt)
            rw [← HP.out] at e1 e2
            have E1 := Lib.hid e1
            clear e1
            have hrd := Own.rd (enc := tenc) (sz := 3) tenc_len (hown.below hHeld.1)
            have hb3' := below_then hb hHeld.1
            go_wp2_with (go_at_call 105; refine (rswapped_len (some ⟨g, 0, none⟩) cap (n + 1) l' i' p _ HLL.out hin (by omega) (by omega) (by omega) hrd).mono ?_; rintro e w4 ⟨v4, rfl, hown4, hb4⟩)
            go_roundw
            case rel => exact ⟨m2, p, sw t0 l' i' p, rfl, e2, by rw [sw_length, HLL.out], by omega, by rw [← E1.out, HUP.out], hown4.mono hb3'.size, below_then hb3' hb4⟩
            case measure => simp [intOf]; omega
          · have hlt' : tlt x y = false := by simpa using hlt
            have hz : up tlt t0 m l' i' = l' := up_stop _ _ (by rw [GX.out, ← HP.out, GY.out]; intro h; exact hlt h.2)
            have HZ := Lib.hid hz
            clear hz hlt
            go_wp2
            refine wp_region_held_drew (S := Env wr []) (by kernel_rfl) (by (first | assumption | exact Env.step (by assumption) (by assumption) | exact Env.old (by assumption) _ | exact Env.drew hE | exact hE | exact Env.drew (by assumption) | exact Env.drew (Env.old (by assumption) _) | ((repeat first | refine Env.far0 ?_ (by assumption) _ | refine Env.far1 ?_ (by assumption) _ | refine Env.farA ?_ (by assumption) _); assumption))) (fun hHeld => ?_)
            refine hTake 0 (by kernel_rfl) (by kernel_rfl) (by kernel_rfl) (by decide) (by assumption) ?_; (intro oi hoi; simp only [List.getElem?_toArray, List.getElem?_cons_zero] at hoi; obtain rfl := Option.some.inj hoi; clear hoi); refine ⟨rfl, ?_⟩; apply Exists.intro; refine ⟨?_, fun _ _ _ h => h, ?_⟩; (intro w hSw; (try dsimp only at hSw); go_simp; (try with_reducible rfl)); (try simp only [Act.put, List.setIfInBounds_toArray, List.set_cons_zero, List.set_cons_succ]); refine hTake 1 (by kernel_rfl) (by kernel_rfl) (by kernel_rfl) (by decide) (by assumption) ?_; (intro oi hoi; simp only [List.getElem?_toArray, List.getElem?_cons_succ, List.getElem?_cons_zero] at hoi; obtain rfl := Option.some.inj hoi; clear hoi); refine ⟨rfl, ?_⟩; apply Exists.intro; refine ⟨?_, fun _ _ _ h => h, ?_⟩; (intro w hSw; (try dsimp only at hSw); go_simp; (try with_reducible rfl)); (try simp only [Act.put, List.setIfInBounds_toArray, List.set_cons_zero, List.set_cons_succ]); refine hTake 2 (by kernel_rfl) (by kernel_rfl) (by kernel_rfl) (by decide) (by assumption) ?_; (intro oi hoi; simp only [List.getElem?_toArray, List.getElem?_cons_succ, List.getElem?_cons_zero] at hoi; obtain rfl := Option.some.inj hoi; clear hoi); refine ⟨rfl, ?_⟩; apply Exists.intro; refine ⟨?_, fun _ _ _ h => h, ?_⟩; (intro w hSw; (try dsimp only at hSw); go_simp; (try with_reducible rfl)); (try simp only [Act.put, List.setIfInBounds_toArray, List.set_cons_zero, List.set_cons_succ]); refine hTake 3 (by kernel_rfl) (by kernel_rfl) (by kernel_rfl) (by decide) (by assumption) ?_; (intro oi hoi; simp only [List.getElem?_toArray, List.getElem?_cons_succ, List.getElem?_cons_zero] at hoi; obtain rfl := Option.some.inj hoi; clear hoi); refine ⟨rfl, ?_⟩; apply Exists.intro; refine ⟨?_, fun _ _ _ h => h, ?_⟩; (intro w hSw; (try dsimp only at hSw); go_simp; (try with_reducible rfl)); (try simp only [Act.put, List.setIfInBounds_toArray, List.set_cons_zero, List.set_cons_succ]); refine hTake 4 (by kernel_rfl) (by kernel_rfl) (by kernel_rfl) (by decide) (by assumption) ?_; (intro oi hoi; simp only [List.getElem?_toArray, List.getElem?_cons_succ, List.getElem?_cons_zero] at hoi; obtain rfl := Option.some.inj hoi; clear hoi); refine ⟨rfl, ?_⟩; apply Exists.intro; refine ⟨?_, fun _ _ _ h => h, ?_⟩; (intro w hSw; (try dsimp only at hSw); go_simp; (try with_reducible rfl)); (try simp only [Act.put, List.setIfInBounds_toArray, List.set_cons_zero, List.set_cons_succ]); refine hTake 5 (by kernel_rfl) (by kernel_rfl) (by kernel_rfl) (by decide) (by assumption) ?_; (intro oi hoi; simp only [List.getElem?_toArray, List.getElem?_cons_succ, List.getElem?_cons_zero] at hoi; obtain rfl := Option.some.inj hoi; clear hoi); refine ⟨rfl, ?_⟩; apply Exists.intro; refine ⟨?_, fun _ _ _ h => h, ?_⟩; (intro w hSw; (try dsimp only at hSw); go_simp; (try with_reducible rfl)); (try simp only [Act.put, List.setIfInBounds_toArray, List.set_cons_zero, List.set_cons_succ]); refine hTake 6 (by kernel_rfl) (by kernel_rfl) (by kernel_rfl) (by decide) (by assumption) ?_; (intro oi hoi; simp only [List.getElem?_toArray, List.getElem?_cons_succ, List.getElem?_cons_zero] at hoi; obtain rfl := Option.some.inj hoi; clear hoi); refine ⟨rfl, ?_⟩; apply Exists.intro; refine ⟨?_, fun _ _ _ h => h, ?_⟩; (intro w hSw; (try dsimp only at hSw); go_simp; (try with_reducible rfl)); (try simp only [Act.put, List.setIfInBounds_toArray, List.set_cons_zero, List.set_cons_succ]); refine hTake 7 (by kernel_rfl) (by kernel_rfl) (by kernel_rfl) (by decide) (by assumption) ?_; (intro oi hoi; simp only [List.getElem?_toArray, List.getElem?_cons_succ, List.getElem?_cons_zero] at hoi; obtain rfl := Option.some.inj hoi; clear hoi); refine ⟨rfl, ?_⟩; apply Exists.intro; refine ⟨?_, fun _ _ _ h => h, ?_⟩; (intro w hSw; (try dsimp only at hSw); go_simp; (try with_reducible rfl)); (try simp only [Act.put, List.setIfInBounds_toArray, List.set_cons_zero, List.set_cons_succ])
            refine hOnly 8 (by kernel_rfl) (by decide) ?_; (intro oi hoi; simp only [List.getElem?_toArray, List.getElem?_cons_succ, List.getElem?_cons_zero] at hoi; obtain rfl := Option.some.inj hoi; clear hoi); intro K hK; go_simp
            go_at_call 29
            refine (rtless_any x y _).mono ?_
            rintro e w3 ⟨rfl, hb3⟩
            have hEhb3 := Env.step hb3 (by assumption); (try (have hqhb3 := (by with_reducible first | exact Loc.below hb3 (Loc.new (Loc.nil _) _ _) | exact Loc.below hb3 (Loc.drew (Loc.new (Loc.nil _) _ _)) | exact Loc.below hb3 (by assumption : Loc _ [_])); (repeat rw [World.size_drew] at hqhb3); (repeat rw [World.size_alloc] at hqhb3); have hrhb3 := hqhb3; (repeat unfold Loc at hrhb3)))
            (refine hK.out _ _ (by (first | assumption | exact Env.step (by assumption) (by assumption) | exact Env.old (by assumption) _ | exact Env.drew hE | exact hE | exact Env.drew (by assumption) | exact Env.drew (Env.old (by assumption) _) | ((repeat first | refine Env.far0 ?_ (by assumption) _ | refine Env.far1 ?_ (by assumption) _ | refine Env.farA ?_ (by assumption) _); assumption))) (fun hHeld => ?_); clear hK K; (try simp only [Act.put, List.setIfInBounds_toArray, List.set_cons_zero, List.set_cons_succ]))
            refine hTake 9 (by kernel_rfl) (by kernel_rfl) (by kernel_rfl) (by decide) (by assumption) ?_; (intro oi hoi; simp only [List.getElem?_toArray, List.getElem?_cons_succ, List.getElem?_cons_zero] at hoi; obtain rfl := Option.some.inj hoi; clear hoi); refine ⟨rfl, ?_⟩; apply Exists.intro; refine ⟨?_, fun _ _ _ h => h, ?_⟩; (intro w hSw; (try dsimp only at hSw); go_simp; (try with_reducible rfl)); (try simp only [Act.put, List.setIfInBounds_toArray, List.set_cons_zero, List.set_cons_succ])
            refine wpAnyH_done (by kernel_rfl) ?_ _
            have hown5 := hown.below hHeld.1
            have hb3' := below_then hb hHeld.1
            rw [HLL.out] at hown5
            go_wp2
            go_ret
            exact ⟨_, rfl, by rw [← HUP.out, HZ.out]; exact hown5, hb3'⟩
  · (intro oi hoi; simp only [List.getElem?_toArray, List.getElem?_cons_succ, List.getElem?_cons_zero] at hoi; obtain rfl := Option.some.inj hoi; clear hoi); intro K hK
    go_simp
    (refine hK.out _ _ (by (first | assumption | exact Env.step (by assumption) (by assumption) | exact Env.old (by assumption) _ | exact Env.drew hE | exact hE | exact Env.drew (by assumption) | exact Env.drew (Env.old (by assumption) _) | ((repeat first | refine Env.far0 ?_ (by assumption) _ | refine Env.far1 ?_ (by assumption) _ | refine Env.farA ?_ (by assumption) _); assumption))) (fun hHeld => ?_); clear hK K; (try simp only [Act.put, List.setIfInBounds_toArray, List.set_cons_zero, List.set_cons_succ]))
    refine hOnly 0 (by kernel_rfl) (by decide) ?_; (intro oi hoi; simp only [List.getElem?_toArray, List.getElem?_cons_zero] at hoi; obtain rfl := Option.some.inj hoi; clear hoi); intro K hK; go_simp
    (refine hK.out _ _ (by (first | assumption | exact Env.step (by assumption) (by assumption) | exact Env.old (by assumption) _ | exact Env.drew hE | exact hE | exact Env.drew (by assumption) | exact Env.drew (Env.old (by assumption) _) | ((repeat first | refine Env.far0 ?_ (by assumption) _ | refine Env.far1 ?_ (by assumption) _ | refine Env.farA ?_ (by assumption) _); assumption))) (fun hHeld => ?_); clear hK K; (try simp only [Act.put, List.setIfInBounds_toArray, List.set_cons_zero, List.set_cons_succ]))
    refine wpAnyH_ready (rs := [2]) (by kernel_rfl) (by simp) ?_
    refine hCons 2 (by decide) ?_ AllReadyH.nil
    (intro oi hoi; simp only [List.getElem?_toArray, List.getElem?_cons_succ, List.getElem?_cons_zero] at hoi; obtain rfl := Option.some.inj hoi; clear hoi); intro K hK
    refine step_append_list rfl (.tmp 8) (.tmp 9) 22 rfl (w.heap.size + 1) 34 i0 (.agg #[.int .i64 0, .int .i64 0, .int .i64 0]) 3 24 Try.underlying22 hi0 hz0 hz1 hz2 rfl (by decide) tenc tenc_len (.slice (some ⟨w.heap.size + 2, 0, none⟩) 0 0) [] l rfl (own_empty (by have h := heap_alloc_new ((w.alloc (.cells #[.int .i64 t.s, .int .i64 t.e, .int .i64 t.k] 34)).alloc (.cells #[.int .i64 t.s, .int .i64 t.e, .int .i64 t.k] 34)) (.cells #[] 34); rw [World.size_alloc, World.size_alloc] at h; exact h) (by omega)) ⟨b, off, none⟩ n c rfl HN.out.symm (fun j u hj => HF.out _ (by assumption) j u hj) (tenc_one l) (by unfold maxLen; simp; omega) (by first | omega | (simp <;> omega)) (by first | omega | (simp <;> omega)) ?_
    intro v w1 hown hgrow hbel
    have hE1 := Env.kept hE (by assumption) (by rw [World.size_alloc]; exact hbel)
    have hs1 := hbel.size
    simp at hs1
    rw [List.nil_append] at hown
    have htm := tm_far hgrow (fun j u hj => (Below.cell (p := (⟨w.heap.size + 1, 0, none⟩ : Addr).add j) ((Below.refl (w.heap.size + 2) _).alloc (by simp) _) (by unfold Addr.add; split <;> simp)).trans (tm_new (w.alloc (.cells #[.int .i64 t.s, .int .i64 t.e, .int .i64 t.k] 34)) t 34 (w.heap.size + 1) (by simp) j u hj)) (by first | omega | (simp <;> omega)) (by simp [Value.ownBlock]); clear hgrow
    refine hK.out _ _ hE1 (fun hHeld => ?_)
    clear hK K
    (try simp only [Act.put, List.setIfInBounds_toArray, List.set_cons_zero, List.set_cons_succ])
    refine wpAnyH_ready (rs := [5]) (by kernel_rfl) (by simp) ?_
    refine hCons 5 (by decide) ?_ AllReadyH.nil
    (intro oi hoi; simp only [List.getElem?_toArray, List.getElem?_cons_succ, List.getElem?_cons_zero] at hoi; obtain rfl := Option.some.inj hoi; clear hoi); intro K hK
    refine step_append_list rfl (.tmp 10) (.tmp 12) 22 rfl (w.heap.size + 1) 34 i0 (.agg #[.int .i64 0, .int .i64 0, .int .i64 0]) 3 24 Try.underlying22 hi0 hz0 hz1 hz2 rfl (by decide) tenc tenc_len v l [t] rfl hown ⟨w.heap.size + 1, 0, none⟩ 1 1 rfl rfl htm (tenc_one [t]) (by rw [← HN.out]; unfold maxLen; omega) (by rw [← HN.out]; omega) (by first | omega | (simp <;> omega)) ?_
    intro v2 w2 hown2 hgrow2 hbel2
    have hE2 := Env.kept hE (by assumption) (by rw [World.size_alloc]; exact hbel2)
    clear hgrow2
    refine hK.out _ _ hE2 (fun hHeld => ?_)
    clear hK K
    (try simp only [Act.put, List.setIfInBounds_toArray, List.set_cons_zero, List.set_cons_succ])
    refine hTake 6 (by kernel_rfl) (by kernel_rfl) (by kernel_rfl) (by decide) (by assumption) ?_; (intro oi hoi; simp only [List.getElem?_toArray, List.getElem?_cons_succ, List.getElem?_cons_zero] at hoi; obtain rfl := Option.some.inj hoi; clear hoi); refine ⟨rfl, ?_⟩; apply Exists.intro; refine ⟨?_, fun _ _ _ h => h, ?_⟩; (intro w hSw; (try dsimp only at hSw); go_simp; (try with_reducible rfl)); (try simp only [Act.put, List.setIfInBounds_toArray, List.set_cons_zero, List.set_cons_succ])
    refine wpAnyH_done (by kernel_rfl) ?_ _
    have hb2 := hE2.1
    clear hown hE1 hE2 hs1
    try clear hbel hbel2
    (try clear htm)
    clear HF hL hE hR hr
    have hown3 := hown2.mono (base' := w.heap.size) (by omega)
    have hlen : (l ++ [t]).length = n + 1 := by simp [HN.out]
    have HLEN := Lib.hid hlen
    clear hlen hown2
    go_wp2_with fail
    go_loopw [5, 6] (fun v i wr => ∃ (m i' : Nat) (l' : List Tm), i = .int .i64 i' ∧ i' ≤ m ∧ l'.length = n + 1 ∧ i' < n + 1 ∧ up tlt t0 m l' i' = pushL tlt t0 l t ∧ Own tenc 3 wr w.heap.size 34 v l' ∧ Below w.heap.size w wr) (fun _ i _ => (intOf i).toNat)
    case atStart => exact ⟨n, n, l ++ [t], rfl, Nat.le_refl _, HLEN.out, by omega, by rw [HN.out]; rfl, hown3, hb2⟩
    case round =>
      obtain ⟨m, i', l', rfl, him, hll, hin, hup, hown, hb⟩ := hrel
      clear hown3 hb2
      have HLL := Lib.hid hll
      have HUP := Lib.hid hup
      clear hll hup
      by_cases hi0' : i' = 0
      · have hz : up tlt t0 m l' i' = l' := up_stop _ _ (by omega)
        have HZ := Lib.hid hz
        clear hz
        subst hi0'
        rw [show ((0 : Nat) : Int) = 0 from rfl]
        go_wp2
        go_ret
        exact ⟨_, rfl, by rw [← HUP.out, HZ.out]; exact hown, hb⟩
      · obtain ⟨p, hp⟩ : ∃ p, p = (i' - 1) / 2 := ⟨_, rfl⟩
        have hpe : ((i' : Int) - 1) / 2 = (p : Int) := by omega
        have hpi : p < i' := by omega
        have j1 : (0 : Int) ≤ (i' : Int) := by omega
        have j2 : (i' : Int) < (n : Int) + 1 := by omega
        have j3 : (0 : Int) ≤ (p : Int) := by omega
        have j4 : (p : Int) < (n : Int) + 1 := by omega
        have HP := Lib.hid hp
        clear hp
        obtain ⟨x, hx⟩ : ∃ x, l'[i']? = some x := ⟨_, List.getElem?_eq_getElem (by rw [HLL.out]; exact hin)⟩
        obtain ⟨y, hy⟩ : ∃ y, l'[p]? = some y := ⟨_, List.getElem?_eq_getElem (by rw [HLL.out]; omega)⟩
        obtain ⟨g, cap, rfl, hbg, hglt⟩ := World.ownsRow.form hown (by rw [HLL.out]; omega)
        obtain ⟨p1, p2, p3, -⟩ := own_tm hown hx
        obtain ⟨q1, q2, q3, -⟩ := own_tm hown hy
        have GX := Lib.hid (getD_some (d := t0) hx)
        have GY := Lib.hid (getD_some (d := t0) hy)
        have hE : Env wr [] wr := ⟨Below.refl _ _, trivial⟩
        have hR : ∀ X, Env wr [] X → X.cell? ⟨g, i' * 3, none⟩ = some (.int .i64 x.s) ∧ X.cell? ⟨g, i' * 3 + 1, none⟩ = some (.int .i64 x.e) ∧ X.cell? ⟨g, i' * 3 + 2, none⟩ = some (.int .i64 x.k) ∧
            X.cell? ⟨g, p * 3, none⟩ = some (.int .i64 y.s) ∧ X.cell? ⟨g, p * 3 + 1, none⟩ = some (.int .i64 y.e) ∧ X.cell? ⟨g, p * 3 + 2, none⟩ = some (.int .i64 y.k) := fun X hX =>
          ⟨(hX.1.cell (p := ⟨g, i' * 3, none⟩) hglt).trans p1, (hX.1.cell (p := ⟨g, i' * 3 + 1, none⟩) hglt).trans p2, (hX.1.cell (p := ⟨g, i' * 3 + 2, none⟩) hglt).trans p3,
            (hX.1.cell (p := ⟨g, p * 3, none⟩) hglt).trans q1, (hX.1.cell (p := ⟨g, p * 3 + 1, none⟩) hglt).trans q2, (hX.1.cell (p := ⟨g, p * 3 + 2, none⟩) hglt).trans q3⟩
        rw [HLL.out]
        clear p1 p2 p3 q1 q2 q3 hx hy
        by_cases hlt : tlt x y = true
        · go_wp2
          refine wp_region_held_drew (S := Env wr []) (by kernel_rfl) (by (first | assumption | exact Env.step (by assumption) (by assumption) | exact Env.old (by assumption) _ | exact Env.drew hE | exact hE | exact Env.drew (by assumption) | exact Env.drew (Env.old (by assumption) _) | ((repeat first | refine Env.far0 ?_ (by assumption) _ | refine Env.far1 ?_ (by assumption) _ | refine Env.farA ?_ (by assumption) _); assumption))) (fun hHeld => ?_)
          refine hTake 0 (by kernel_rfl) (by kernel_rfl) (by kernel_rfl) (by decide) (by assumption) ?_; (intro oi hoi; simp only [List.getElem?_toArray, List.getElem?_cons_zero] at hoi; obtain rfl := Option.some.inj hoi; clear hoi); refine ⟨rfl, ?_⟩; apply Exists.intro; refine ⟨?_, fun _ _ _ h => h, ?_⟩; (intro w hSw; (try dsimp only at hSw); go_simp; (try with_reducible rfl)); (try simp only [Act.put, List.setIfInBounds_toArray, List.set_cons_zero, List.set_cons_succ]); refine hTake 1 (by kernel_rfl) (by kernel_rfl) (by kernel_rfl) (by decide) (by assumption) ?_; (intro oi hoi; simp only [List.getElem?_toArray, List.getElem?_cons_succ, List.getElem?_cons_zero] at hoi; obtain rfl := Option.some.inj hoi; clear hoi); refine ⟨rfl, ?_⟩; apply Exists.intro; refine ⟨?_, fun _ _ _ h => h, ?_⟩; (intro w hSw; (try dsimp only at hSw); go_simp; (try with_reducible rfl)); (try simp only [Act.put, List.setIfInBounds_toArray, List.set_cons_zero, List.set_cons_succ]); refine hTake 2 (by kernel_rfl) (by kernel_rfl) (by kernel_rfl) (by decide) (by assumption) ?_; (intro oi hoi; simp only [List.getElem?_toArray, List.getElem?_cons_succ, List.getElem?_cons_zero] at hoi; obtain rfl := Option.some.inj hoi; clear hoi); refine ⟨rfl, ?_⟩; apply Exists.intro; refine ⟨?_, fun _ _ _ h => h, ?_⟩; (intro w hSw; (try dsimp only at hSw); go_simp; (try with_reducible rfl)); (try simp only [Act.put, List.setIfInBounds_toArray, List.set_cons_zero, List.set_cons_succ]); refine hTake 3 (by kernel_rfl) (by kernel_rfl) (by kernel_rfl) (by decide) (by assumption) ?_; (intro oi hoi; simp only [List.getElem?_toArray, List.getElem?_cons_succ, List.getElem?_cons_zero] at hoi; obtain rfl := Option.some.inj hoi; clear hoi); refine ⟨rfl, ?_⟩; apply Exists.intro; refine ⟨?_, fun _ _ _ h => h, ?_⟩; (intro w hSw; (try dsimp only at hSw); go_simp; (try with_reducible rfl)); (try simp only [Act.put, List.setIfInBounds_toArray, List.set_cons_zero, List.set_cons_succ]); refine hTake 4 (by kernel_rfl) (by kernel_rfl) (by kernel_rfl) (by decide) (by assumption) ?_; (intro oi hoi; simp only [List.getElem?_toArray, List.getElem?_cons_succ, List.getElem?_cons_zero] at hoi; obtain rfl := Option.some.inj hoi; clear hoi); refine ⟨rfl, ?_⟩; apply Exists.intro; refine ⟨?_, fun _ _ _ h => h, ?_⟩; (intro w hSw; (try dsimp only at hSw); go_simp; (try with_reducible rfl)); (try simp only [Act.put, List.setIfInBounds_toArray, List.set_cons_zero, List.set_cons_succ]); refine hTake 5 (by kernel_rfl) (by kernel_rfl) (by kernel_rfl) (by decide) (by assumption) ?_; (intro oi hoi; simp only [List.getElem?_toArray, List.getElem?_cons_succ, List.getElem?_cons_zero] at hoi; obtain rfl := Option.some.inj hoi; clear hoi); refine ⟨rfl, ?_⟩; apply Exists.intro; refine ⟨?_, fun _ _ _ h => h, ?_⟩; (intro w hSw; (try dsimp only at hSw); go_simp; (try with_reducible rfl)); (try simp only [Act.put, List.setIfInBounds_toArray, List.set_cons_zero, List.set_cons_succ]); refine hTake 6 (by kernel_rfl) (by kernel_rfl) (by kernel_rfl) (by decide) (by assumption) ?_; (intro oi hoi; simp only [List.getElem?_toArray, List.getElem?_cons_succ, List.getElem?_cons_zero] at hoi; obtain rfl := Option.some.inj hoi; clear hoi); refine ⟨rfl, ?_⟩; apply Exists.intro; refine ⟨?_, fun _ _ _ h => h, ?_⟩; (intro w hSw; (try dsimp only at hSw); go_simp; (try with_reducible rfl)); (try simp only [Act.put, List.setIfInBounds_toArray, List.set_cons_zero, List.set_cons_succ]); refine hTake 7 (by kernel_rfl) (by kernel_rfl) (by kernel_rfl) (by decide) (by assumption) ?_; (intro oi hoi; simp only [List.getElem?_toArray, List.getElem?_cons_succ, List.getElem?_cons_zero] at hoi; obtain rfl := Option.some.inj hoi; clear hoi); refine ⟨rfl, ?_⟩; apply Exists.intro; refine ⟨?_, fun _ _ _ h => h, ?_⟩; (intro w hSw; (try dsimp only at hSw); go_simp; (try with_reducible rfl)); (try simp only [Act.put, List.setIfInBounds_toArray, List.set_cons_zero, List.set_cons_succ])
          refine hOnly 8 (by kernel_rfl) (by decide) ?_; (intro oi hoi; simp only [List.getElem?_toArray, List.getElem?_cons_succ, List.getElem?_cons_zero] at hoi; obtain rfl := Option.some.inj hoi; clear hoi); intro K hK; go_simp
          go_at_call 29
          refine (rtless_any x y _).mono ?_
          rintro e w3 ⟨rfl, hb3⟩
          have hEhb3 := Env.step hb3 (by assumption); (try (have hqhb3 := (by with_reducible first | exact Loc.below hb3 (Loc.new (Loc.nil _) _ _) | exact Loc.below hb3 (Loc.drew (Loc.new (Loc.nil _) _ _)) | exact Loc.below hb3 (by assumption : Loc _ [_])); (repeat rw [World.size_drew] at hqhb3); (repeat rw [World.size_alloc] at hqhb3); have hrhb3 := hqhb3; (repeat unfold Loc at hrhb3)))
          (refine hK.out _ _ (by (first | assumption | exact Env.step (by assumption) (by assumption) | exact Env.old (by assumption) _ | exact Env.drew hE | exact hE | exact Env.drew (by assumption) | exact Env.drew (Env.old (by assumption) _) | ((repeat first | refine Env.far0 ?_ (by assumption) _ | refine Env.far1 ?_ (by assumption) _ | refine Env.farA ?_ (by assumption) _); assumption))) (fun hHeld => ?_); clear hK K; (try simp only [Act.put, List.setIfInBounds_toArray, List.set_cons_zero, List.set_cons_succ]))
          refine hTake 9 (by kernel_rfl) (by kernel_rfl) (by kernel_rfl) (by decide) (by assumption) ?_; (intro oi hoi; simp only [List.getElem?_toArray, List.getElem?_cons_succ, List.getElem?_cons_zero] at hoi; obtain rfl := Option.some.inj hoi; clear hoi); refine ⟨rfl, ?_⟩; apply Exists.intro; refine ⟨?_, fun _ _ _ h => h, ?_⟩; (intro w hSw; (try dsimp only at hSw); go_simp; (try with_reducible rfl)); (try simp only [Act.put, List.setIfInBounds_toArray, List.set_cons_zero, List.set_cons_succ])
          refine wpAnyH_done (by kernel_rfl) ?_ _
          obtain ⟨m2, e1, e2⟩ := up_step (lt := tlt) (d := t0) (by omega) him (by rw [GX.out, ← HP.out, GY.out]; exact hlt)
          rw [← HP.out] at e1 e2
          have E1 := Lib.hid e1
          clear e1
          have hrd := Own.rd (enc := tenc) (sz := 3) tenc_len (hown.below hHeld.1)
          have hb3' := below_then hb hHeld.1
          go_wp2_with (go_at_call 105; refine (rswapped_len (some ⟨g, 0, none⟩) cap (n + 1) l' i' p _ HLL.out hin (by omega) (by omega) (by omega) hrd).mono ?_; rintro e w4 ⟨v4, rfl, hown4, hb4⟩)
          go_roundw
          case rel => exact ⟨m2, p, sw t0 l' i' p, rfl, e2, by rw [sw_length, HLL.out], by omega, by rw [← E1.out, HUP.out], hown4.mono hb3'.size, below_then hb3' hb4⟩
          case measure => simp [intOf]; omega
        · have hlt' : tlt x y = false := by simpa using hlt
          have hz : up tlt t0 m l' i' = l' := up_stop _ _ (by rw [GX.out, ← HP.out, GY.out]; intro h; exact hlt h.2)
          have HZ := Lib.hid hz
          clear hz hlt
          go_wp2
          refine wp_region_held_drew (S := Env wr []) (by kernel_rfl) (by (first | assumption | exact Env.step (by assumption) (by assumption) | exact Env.old (by assumption) _ | exact Env.drew hE | exact hE | exact Env.drew (by assumption) | exact Env.drew (Env.old (by assumption) _) | ((repeat first | refine Env.far0 ?_ (by assumption) _ | refine Env.far1 ?_ (by assumption) _ | refine Env.farA ?_ (by assumption) _); assumption))) (fun hHeld => ?_)
          refine hTake 0 (by kernel_rfl) (by kernel_rfl) (by kernel_rfl) (by decide) (by assumption) ?_; (intro oi hoi; simp only [List.getElem?_toArray, List.getElem?_cons_zero] at hoi; obtain rfl := Option.some.inj hoi; clear hoi); refine ⟨rfl, ?_⟩; apply Exists.intro; refine ⟨?_, fun _ _ _ h => h, ?_⟩; (intro w hSw; (try dsimp only at hSw); go_simp; (try with_reducible rfl)); (try simp only [Act.put, List.setIfInBounds_toArray, List.set_cons_zero, List.set_cons_succ]); refine hTake 1 (by kernel_rfl) (by kernel_rfl) (by kernel_rfl) (by decide) (by assumption) ?_; (intro oi hoi; simp only [List.getElem?_toArray, List.getElem?_cons_succ, List.getElem?_cons_zero] at hoi; obtain rfl := Option.some.inj hoi; clear hoi); refine ⟨rfl, ?_⟩; apply Exists.intro; refine ⟨?_, fun _ _ _ h => h, ?_⟩; (intro w hSw; (try dsimp only at hSw); go_simp; (try with_reducible rfl)); (try simp only [Act.put, List.setIfInBounds_toArray, List.set_cons_zero, List.set_cons_succ]); refine hTake 2 (by kernel_rfl) (by kernel_rfl) (by kernel_rfl) (by decide) (by assumption) ?_; (intro oi hoi; simp only [List.getElem?_toArray, List.getElem?_cons_succ, List.getElem?_cons_zero] at hoi; obtain rfl := Option.some.inj hoi; clear hoi); refine ⟨rfl, ?_⟩; apply Exists.intro; refine ⟨?_, fun _ _ _ h => h, ?_⟩; (intro w hSw; (try dsimp only at hSw); go_simp; (try with_reducible rfl)); (try simp only [Act.put, List.setIfInBounds_toArray, List.set_cons_zero, List.set_cons_succ]); refine hTake 3 (by kernel_rfl) (by kernel_rfl) (by kernel_rfl) (by decide) (by assumption) ?_; (intro oi hoi; simp only [List.getElem?_toArray, List.getElem?_cons_succ, List.getElem?_cons_zero] at hoi; obtain rfl := Option.some.inj hoi; clear hoi); refine ⟨rfl, ?_⟩; apply Exists.intro; refine ⟨?_, fun _ _ _ h => h, ?_⟩; (intro w hSw; (try dsimp only at hSw); go_simp; (try with_reducible rfl)); (try simp only [Act.put, List.setIfInBounds_toArray, List.set_cons_zero, List.set_cons_succ]); refine hTake 4 (by kernel_rfl) (by kernel_rfl) (by kernel_rfl) (by decide) (by assumption) ?_; (intro oi hoi; simp only [List.getElem?_toArray, List.getElem?_cons_succ, List.getElem?_cons_zero] at hoi; obtain rfl := Option.some.inj hoi; clear hoi); refine ⟨rfl, ?_⟩; apply Exists.intro; refine ⟨?_, fun _ _ _ h => h, ?_⟩; (intro w hSw; (try dsimp only at hSw); go_simp; (try with_reducible rfl)); (try simp only [Act.put, List.setIfInBounds_toArray, List.set_cons_zero, List.set_cons_succ]); refine hTake 5 (by kernel_rfl) (by kernel_rfl) (by kernel_rfl) (by decide) (by assumption) ?_; (intro oi hoi; simp only [List.getElem?_toArray, List.getElem?_cons_succ, List.getElem?_cons_zero] at hoi; obtain rfl := Option.some.inj hoi; clear hoi); refine ⟨rfl, ?_⟩; apply Exists.intro; refine ⟨?_, fun _ _ _ h => h, ?_⟩; (intro w hSw; (try dsimp only at hSw); go_simp; (try with_reducible rfl)); (try simp only [Act.put, List.setIfInBounds_toArray, List.set_cons_zero, List.set_cons_succ]); refine hTake 6 (by kernel_rfl) (by kernel_rfl) (by kernel_rfl) (by decide) (by assumption) ?_; (intro oi hoi; simp only [List.getElem?_toArray, List.getElem?_cons_succ, List.getElem?_cons_zero] at hoi; obtain rfl := Option.some.inj hoi; clear hoi); refine ⟨rfl, ?_⟩; apply Exists.intro; refine ⟨?_, fun _ _ _ h => h, ?_⟩; (intro w hSw; (try dsimp only at hSw); go_simp; (try with_reducible rfl)); (try simp only [Act.put, List.setIfInBounds_toArray, List.set_cons_zero, List.set_cons_succ]); refine hTake 7 (by kernel_rfl) (by kernel_rfl) (by kernel_rfl) (by decide) (by assumption) ?_; (intro oi hoi; simp only [List.getElem?_toArray, List.getElem?_cons_succ, List.getElem?_cons_zero] at hoi; obtain rfl := Option.some.inj hoi; clear hoi); refine ⟨rfl, ?_⟩; apply Exists.intro; refine ⟨?_, fun _ _ _ h => h, ?_⟩; (intro w hSw; (try dsimp only at hSw); go_simp; (try with_reducible rfl)); (try simp only [Act.put, List.setIfInBounds_toArray, List.set_cons_zero, List.set_cons_succ])
          refine hOnly 8 (by kernel_rfl) (by decide) ?_; (intro oi hoi; simp only [List.getElem?_toArray, List.getElem?_cons_succ, List.getElem?_cons_zero] at hoi; obtain rfl := Option.some.inj hoi; clear hoi); intro K hK; go_simp
          go_at_call 29
          refine (rtless_any x y _).mono ?_
          rintro e w3 ⟨rfl, hb3⟩
          have hEhb3 := Env.step hb3 (by assumption); (try (have hqhb3 := (by with_reducible first | exact Loc.below hb3 (Loc.new (Loc.nil _) _ _) | exact Loc.below hb3 (Loc.drew (Loc.new (Loc.nil _) _ _)) | exact Loc.below hb3 (by assumption : Loc _ [_])); (repeat rw [World.size_drew] at hqhb3); (repeat rw [World.size_alloc] at hqhb3); have hrhb3 := hqhb3; (repeat unfold Loc at hrhb3)))
          (refine hK.out _ _ (by (first | assumption | exact Env.step (by assumption) (by assumption) | exact Env.old (by assumption) _ | exact Env.drew hE | exact hE | exact Env.drew (by assumption) | exact Env.drew (Env.old (by assumption) _) | ((repeat first | refine Env.far0 ?_ (by assumption) _ | refine Env.far1 ?_ (by assumption) _ | refine Env.farA ?_ (by assumption) _); assumption))) (fun hHeld => ?_); clear hK K; (try simp only [Act.put, List.setIfInBounds_toArray, List.set_cons_zero, List.set_cons_succ]))
          refine hTake 9 (by kernel_rfl) (by kernel_rfl) (by kernel_rfl) (by decide) (by assumption) ?_; (intro oi hoi; simp only [List.getElem?_toArray, List.getElem?_cons_succ, List.getElem?_cons_zero] at hoi; obtain rfl := Option.some.inj hoi; clear hoi); refine ⟨rfl, ?_⟩; apply Exists.intro; refine ⟨?_, fun _ _ _ h => h, ?_⟩; (intro w hSw; (try dsimp only at hSw); go_simp; (try with_reducible rfl)); (try simp only [Act.put, List.setIfInBounds_toArray, List.set_cons_zero, List.set_cons_succ])
          refine wpAnyH_done (by kernel_rfl) ?_ _
          have hown5 := hown.below hHeld.1
          have hb3' := below_then hb hHeld.1
          rw [HLL.out] at hown5
          go_wp2
          go_ret
          exact ⟨_, rfl, by rw [← HUP.out, HZ.out]; exact hown5, hb3'⟩
end Go.Proofs.Ytffehibdeogjeaa
