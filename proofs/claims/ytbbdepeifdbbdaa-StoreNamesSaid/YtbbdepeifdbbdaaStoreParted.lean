/- The contract of the reference's Parted (chapter 17). Condition: lists of at most 2^40 entries. -/
import Derived.Test.YtbbdepeifdbbdaaStoreFire
import Derived.Deep.RegionLaw
namespace Go.Proofs.Ytbbdepeifdbbdaa
open Go.RowKit

theorem step_append_l2 {P : Program} {w : World} {ops : Array Oper} {o : Oper} {a : Act} {K : Act → World → Prop} {Q : Exit → Act → World → Prop} {E : Prop} (hgd : o.guard = none) (s x : Operand) (t : TypeId)
    (ho : o.op = .call { callee := .builtin .append, args := #[s, x], argTypes := #[t, t] })
    (base : Nat) (e : TypeId) (i : TypeInfo) (z : Value) (size bytes : Nat) (ht : P.underlying t = some (.slice e)) (hi : P.info? e = some i) (hz : i.zero = some z)
    (hsize : i.size = size) (hby : i.bytes = bytes) (hzs : z.cells.size = size) (hsz : 0 < size)
    {α : Type} (enc : α → List Value) (henc : ∀ y, (enc y).length = size) (v : Value) (l ys : List α) (hs : a.eval s = v) (hown : Own enc size w base e v l)
    (ad : Addr) (n c : Nat) (hx : a.eval x = .slice (some ad) n c) (hnl : ys.length = n) (hnews : ∀ j u, (ys.flatMap enc)[j]? = some u → w.cell? (ad.add j) = some u) (h1 : ∀ u ∈ ys.flatMap enc, u.oneCell' = true)
    (h63 : l.length + n ≤ maxLen) (hbytes : (l.length + n) * bytes ≤ 140737488355328) (hbase : base ≤ w.heap.size)
    (h : ∀ v' w', Own enc size w' base e v' (l ++ ys) → w.grownBy w' v.ownBlock → Below base w w' → (v'.ownBlock = v.ownBlock ∨ ∀ k, v'.ownBlock = some k → w.heap.size ≤ k) → K (a.put o.dst v') w') :
    if Region.wanted o (yielded ops a.tmps) = true then Oper.wp P o a w K Q else E := by
  have hw : Region.wanted o (yielded ops a.tmps) = true := by simp [Region.wanted, hgd]
  rw [if_pos hw]
  have hlen : (ys.flatMap enc).length = n * size := by rw [flat_length henc, hnl]
  have key : ∃ v' w', (Builtin.append_ #[t, t] o.type #[v, .slice (some ad) n c]).run P w = .ok v' w' ∧ Own enc size w' base e v' (l ++ ys) ∧ w.grownBy w' v.ownBlock ∧ (v'.ownBlock = v.ownBlock ∨ ∀ k, v'.ownBlock = some k → w.heap.size ≤ k) := by
    have h0 := hown
    rcases hown.2 with ⟨rfl, hl0⟩ | ⟨g, cap, cur, rfl, hb, hg, hnc, hcm, hcs, htake⟩
    · have hl : l = [] := List.eq_nil_of_length_eq_zero hl0
      subst hl
      obtain ⟨v', w', hrun, r1, r2, _⟩ := run_append_own (P := P) w w.heap.size t o.type e i z size bytes ht hi hz hsize hby hzs hsz (.slice none 0 0) 0 [] (World.ownsRow_nil w _ e size) ad n c (ys.flatMap enc) hlen hnews h1 (by simpa using h63) (by simpa using hbytes) (Nat.le_refl _)
      have ho' : Own enc size w' w.heap.size e v' ([] ++ ys) := by unfold Own; simpa [hnl] using r1
      exact ⟨v', w', hrun, ho'.mono hbase, r2, .inr (fun k hk => (World.ownsRow.lt ho' k hk).1)⟩
    · by_cases hr : l.length + n ≤ cap
      · obtain ⟨v', w', hrun, r1, r2, _⟩ := run_append_own (P := P) w base t o.type e i z size bytes ht hi hz hsize hby hzs hsz _ l.length (l.flatMap enc) hown ad n c (ys.flatMap enc) hlen hnews h1 h63 hbytes hbase
        have hrun2 := run_append_room_cells (P := P) (w := w) t o.type e i ht hi g 0 l.length cap ad n c (ys.flatMap enc) (by rw [hsize]; exact hlen) hnews h1 hr (fun j hj => by
          rw [hlen] at hj
          simp only [World.cell?, hg, Nat.zero_add, hsize]
          have h2 := Nat.mul_le_mul_right size hr
          rw [Nat.add_mul] at h2
          have : l.length * size + j < cur.size := by rw [hcs]; omega
          simp [this]) (fun j _ => World.ownsRow.frozenAt h0 _)
        rw [hrun] at hrun2
        injection hrun2 with e1 e2
        refine ⟨v', w', hrun, ?_, r2, .inl (by rw [e1]; rfl)⟩
        unfold Own
        simpa [hnl] using r1
      · have holds : ∀ j u, (l.flatMap enc)[j]? = some u → w.cell? ((⟨g, 0, none⟩ : Addr).add j) = some u := World.ownsRow.cells h0 (g := g) rfl
        obtain ⟨v', w', hrun, r1, r2⟩ := run_append_arg_grows (P := P) (w := w) t o.type e i z size bytes ht hi hz hsize hby hzs hsz ⟨g, 0, none⟩ l.length cap (l.flatMap enc) (flat_length henc l) holds ad n c (ys.flatMap enc) hlen hnews (by omega) h63 hbytes
        have ho' : Own enc size w' w.heap.size e v' (l ++ ys) := by unfold Own; simpa [hnl] using r1
        exact ⟨v', w', hrun, ho'.mono hbase, grown_any r2, .inr (fun k hk => (World.ownsRow.lt ho' k hk).1)⟩
  obtain ⟨v', w', hrun, k1, k2, k3⟩ := key
  unfold Oper.wp
  simp [execOp, ho, resolve, invoke, builtin, hs, hx, hrun, Result.andThen]
  exact h v' w' k1 k2 (below_of_grown k2 (fun k hk => (World.ownsRow.lt hown k hk).1) hbase) k3
theorem tw_step {α : Type} (p : α → Bool) {l : List α} {k : Nat} {x : α} (h : l[k]? = some x) (hp : p x = true) (hk : k ≤ (l.takeWhile p).length) : k + 1 ≤ (l.takeWhile p).length := by
  induction l generalizing k with
  | nil => simp at h
  | cons y ys ih =>
    cases k with
    | zero => simp at h; subst h; simp [List.takeWhile, hp]
    | succ k =>
      simp at h
      by_cases hy : p y = true
      · simp [List.takeWhile, hy] at hk ⊢; exact ih h hk
      · simp [List.takeWhile, hy] at hk
theorem tw_stop {α : Type} (p : α → Bool) {l : List α} {k : Nat} (h : ∀ x, l[k]? = some x → p x = false) (hk : k ≤ (l.takeWhile p).length) : k = (l.takeWhile p).length := by
  induction l generalizing k with
  | nil => simp at hk; simp [hk]
  | cons y ys ih =>
    cases k with
    | zero => have := h y (by simp); simp [List.takeWhile, this]
    | succ k =>
      by_cases hy : p y = true
      · simp [List.takeWhile, hy] at hk ⊢; exact ih (fun x hx => h x (by simpa using hx)) hk
      · simp [List.takeWhile, hy] at hk
theorem flat_pre {l : List En} (k : Nat) {j : Nat} {u : Value} (h : ((l.take k).flatMap enenc)[j]? = some u) : (l.flatMap enenc)[j]? = some u := by
  have e : l.flatMap enenc = (l.take k).flatMap enenc ++ (l.drop k).flatMap enenc := by rw [← List.flatMap_append, List.take_append_drop]
  rw [e, List.getElem?_append_left (List.getElem?_eq_some_iff.1 h).1]
  exact h
theorem flat_post {l : List En} (k : Nat) (hk : k ≤ l.length) {j : Nat} {u : Value} (h : ((l.drop k).flatMap enenc)[j]? = some u) : (l.flatMap enenc)[k * 11 + j]? = some u := by
  have e : l.flatMap enenc = (l.take k).flatMap enenc ++ (l.drop k).flatMap enenc := by rw [← List.flatMap_append, List.take_append_drop]
  have hl : ((l.take k).flatMap enenc).length = k * 11 := by rw [flat_length enenc_len, List.length_take, Nat.min_eq_left hk]
  rw [e, List.getElem?_append_right (by omega), hl, Nat.add_sub_cancel_left]
  exact h
theorem own_empty1 (w : World) : Own enenc 11 ((w.alloc (.cells #[] 43)).alloc (.cells #[] 43)) w.heap.size 43 (.slice (some ⟨w.heap.size + 1, 0, none⟩) 0 0) ([] : List En) :=
  own_empty (by have h := heap_alloc_new (w.alloc (.cells #[] 43)) (.cells #[] 43); rw [World.size_alloc] at h; exact h) (by omega)
noncomputable def partN (l : List En) (mark : Int) : Nat := (l.takeWhile (endsE mark)).length
theorem partN_le (l : List En) (mark : Int) : partN l mark ≤ l.length := (List.takeWhile_sublist _).length_le

def PartedP (l : List En) (mark : Int) (w : World) (r : Ending) (w' : World) : Prop :=
  ∃ v1 v2, r = .returned (.tuple #[v1, v2]) ∧ Own enenc 11 w' w.heap.size 43 v1 (l.take (partN l mark)) ∧ Own enenc 11 w' w.heap.size 43 v2 (l.drop (partN l mark)) ∧ Below w.heap.size w w'
set_option maxHeartbeats 8000000 in
set_option maxRecDepth 100000 in
theorem parted_any (b off c n : Nat) (l : List En) (mark : Int) (w : World) (hln : l.length = n) (hn : n ≤ 1099511627776) (hc : n ≤ c) (hbB : b < w.heap.size) (hr : Rd enenc 11 w w.heap.size (some ⟨b, off, none⟩) l) :
    Calls Try.prog 73 #[.slice (some ⟨b, off, none⟩) n c, .int .i64 mark] w (PartedP l mark w) := by
  obtain ⟨i0, hi0, hz0, hz1, hz2⟩ := info_parts en_info
  obtain ⟨N, hN⟩ : ∃ N, N = partN l mark := ⟨_, rfl⟩
  have hNn : N ≤ n := by rw [hN, ← hln]; exact partN_le l mark
  have HN := Lib.hid hN; have HLN := Lib.hid hln
  clear hN hln
  go_enter Try.func73, Try.ntmps73
  go_wp2_with fail
  go_loopw [6] (fun i wr => ∃ (k m : Nat), i = .int .i64 k ∧ k ≤ N ∧ wr = w.drewN m) (fun i _ => n - (intOf i).toNat)
  case atStart => exact ⟨0, 0, rfl, Nat.zero_le _, rfl⟩
  case round =>
    obtain ⟨k, m, rfl, hk, rfl⟩ := hrel
    have HK := Lib.hid hk
    by_cases hlt : k < n
    · obtain ⟨x, hx⟩ : ∃ x, l[k]? = some x := ⟨_, List.getElem?_eq_getElem (by rw [HLN.out]; exact hlt)⟩
      obtain ⟨b', off', hbe, hbb, f0, f1, f2, f3, f4, f5, f6, f7, f8, f9, f10⟩ := en_cells hr hx
      cases hbe
      replace f2 : w.cell? { block := b, off := off + k * 11 + 1 + 1 } = some (Value.int IntKind.i64 x.e) := f2
      have d1 : decide ((k : Int) < (n : Int)) = true := by simp; omega
      have d1' : decide (k < n) = true := by simp [hlt]
      have k1 : (0 : Int) ≤ (k : Int) := by omega
      have k2 : (k : Int) < (n : Int) := by omega
      have e1 : IntKind.i64.wrap ((k : Int) + 1) = (k : Int) + 1 := IntWalk.i64_in _ (by omega)
      by_cases hm : x.e ≤ mark
      · have dm : decide (x.e ≤ mark) = true := by simp [hm]
        have hst := tw_step (endsE mark) hx (by simp [endsE, hm]) (by have h := HK.out; rw [HN.out] at h; exact h)
        go_wp2
        go_roundw
        case rel => exact ⟨k + 1, _, by go_num, by rw [HN.out]; exact hst, rfl⟩
        case measure => simp [intOf]; omega
      · have dm : decide (x.e ≤ mark) = false := by simp; omega
        have hst := tw_stop (endsE mark) (l := l) (k := k) (fun y hy => by rw [hx] at hy; cases hy; simp [endsE]; omega) (by have h := HK.out; rw [HN.out] at h; exact h)
        have HST := Lib.hid hst
        have t1 : (k : Int) ≤ (c : Int) := by omega
        have t2 : (k : Int) ≤ (n : Int) := by omega
        have t3 : k ≤ c := by omega
        have t4 : k ≤ n := by omega
        have hck : ¬ c = k := by omega
        clear hx hst
        have hL := Loc.nil (w.drewN m)
        obtain ⟨lE, hE, hR⟩ := Env.abs (w0 := w) (below_drewN (Below.refl _ _) m) hL
        go_wp2_with fail
        have hflat1 : ∀ X, Env w lE X → ∀ j u, ((l.take k).flatMap enenc)[j]? = some u → X.cell? ((⟨b, off, none⟩ : Addr).add j) = some u := fun X hX j u hj =>
          (hX.1.cell (p := (⟨b, off, none⟩ : Addr).add j) (by unfold Addr.add; split <;> simpa using hbB)).trans (rd_flat enenc_len hr j u (flat_pre k hj))
        have hflat2 : ∀ X, Env w lE X → ∀ j u, ((l.drop k).flatMap enenc)[j]? = some u → X.cell? ((⟨b, off + k * 11, none⟩ : Addr).add j) = some u := fun X hX j u hj => by
          have h := (hX.1.cell (p := (⟨b, off, none⟩ : Addr).add (k * 11 + j)) (by unfold Addr.add; split <;> simpa using hbB)).trans (rd_flat enenc_len hr (k * 11 + j) u (flat_post k (by rw [HLN.out]; exact t4) hj))
          rw [Addr.add_lit] at h ⊢
          rw [Nat.add_assoc]
          exact h
        have F1 := Lib.hid hflat1
        have F2 := Lib.hid hflat2
        clear hflat1 hflat2
        refine wp_region_held_drew (S := Env w lE) (by kernel_rfl) (by (first | assumption | exact Env.step (by assumption) (by assumption) | exact Env.old (by assumption) _ | exact Env.drew hE | exact hE | exact Env.drew (by assumption) | exact Env.drew (Env.old (by assumption) _) | ((repeat first | refine Env.far0 ?_ (by assumption) _ | refine Env.far1 ?_ (by assumption) _ | refine Env.farA ?_ (by assumption) _); assumption))) (fun hHeld => ?_)
        refine hTake 1 (by kernel_rfl) (by kernel_rfl) (by kernel_rfl) (by decide) (by assumption) ?_; (intro oi hoi; simp only [List.getElem?_toArray, List.getElem?_cons_succ, List.getElem?_cons_zero] at hoi; obtain rfl := Option.some.inj hoi; clear hoi); refine ⟨rfl, ?_⟩; apply Exists.intro; refine ⟨?_, fun _ _ _ h => h, ?_⟩; (intro w hSw; (try dsimp only at hSw); go_simp; (try with_reducible rfl)); (try simp only [Act.put, List.setIfInBounds_toArray, List.set_cons_zero, List.set_cons_succ]); refine hTake 2 (by kernel_rfl) (by kernel_rfl) (by kernel_rfl) (by decide) (by assumption) ?_; (intro oi hoi; simp only [List.getElem?_toArray, List.getElem?_cons_succ, List.getElem?_cons_zero] at hoi; obtain rfl := Option.some.inj hoi; clear hoi); refine ⟨rfl, ?_⟩; apply Exists.intro; refine ⟨?_, fun _ _ _ h => h, ?_⟩; (intro w hSw; (try dsimp only at hSw); go_simp; (try with_reducible rfl)); (try simp only [Act.put, List.setIfInBounds_toArray, List.set_cons_zero, List.set_cons_succ])
        refine hTake 3 (by kernel_rfl) (by kernel_rfl) (by kernel_rfl) (by decide) (by assumption) ?_; (intro oi hoi; simp only [List.getElem?_toArray, List.getElem?_cons_succ, List.getElem?_cons_zero] at hoi; obtain rfl := Option.some.inj hoi; clear hoi); refine ⟨rfl, ?_⟩; apply Exists.intro; refine ⟨?_, fun _ _ _ h => h, ?_⟩; (intro w hSw; (try dsimp only at hSw); go_simp; (try with_reducible rfl)); (try simp only [Act.put, List.setIfInBounds_toArray, List.set_cons_zero, List.set_cons_succ])
        refine hTake 6 (by kernel_rfl) (by kernel_rfl) (by kernel_rfl) (by decide) (by assumption) ?_; (intro oi hoi; simp only [List.getElem?_toArray, List.getElem?_cons_succ, List.getElem?_cons_zero] at hoi; obtain rfl := Option.some.inj hoi; clear hoi); refine ⟨rfl, ?_⟩; apply Exists.intro; refine ⟨?_, fun _ _ _ h => h, ?_⟩; (intro w hSw; (try dsimp only at hSw); go_simp; (try with_reducible rfl)); (try simp only [Act.put, List.setIfInBounds_toArray, List.set_cons_zero, List.set_cons_succ]); refine hTake 7 (by kernel_rfl) (by kernel_rfl) (by kernel_rfl) (by decide) (by assumption) ?_; (intro oi hoi; simp only [List.getElem?_toArray, List.getElem?_cons_succ, List.getElem?_cons_zero] at hoi; obtain rfl := Option.some.inj hoi; clear hoi); refine ⟨rfl, ?_⟩; apply Exists.intro; refine ⟨?_, fun _ _ _ h => h, ?_⟩; (intro w hSw; (try dsimp only at hSw); go_simp; (try with_reducible rfl)); (try simp only [Act.put, List.setIfInBounds_toArray, List.set_cons_zero, List.set_cons_succ])
        refine hTake 8 (by kernel_rfl) (by kernel_rfl) (by kernel_rfl) (by decide) (by assumption) ?_; (intro oi hoi; simp only [List.getElem?_toArray, List.getElem?_cons_succ, List.getElem?_cons_zero] at hoi; obtain rfl := Option.some.inj hoi; clear hoi); refine ⟨rfl, ?_⟩; apply Exists.intro; refine ⟨?_, fun _ _ _ h => h, ?_⟩; (intro w hSw; (try dsimp only at hSw); go_simp; (try with_reducible rfl)); (try simp only [Act.put, List.setIfInBounds_toArray, List.set_cons_zero, List.set_cons_succ])
        refine wpAnyH_ready (rs := [0, 5]) (by kernel_rfl) (by simp) ?_
        refine hCons 0 (by decide) ?_ (hCons 5 (by decide) ?_ AllReadyH.nil)
        · (intro oi hoi; simp only [List.getElem?_toArray, List.getElem?_cons_zero] at hoi; obtain rfl := Option.some.inj hoi; clear hoi); intro K hK
          go_simp
          (refine hK.out _ _ (by (first | assumption | exact Env.step (by assumption) (by assumption) | exact Env.old (by assumption) _ | exact Env.drew hE | exact hE | exact Env.drew (by assumption) | exact Env.drew (Env.old (by assumption) _) | ((repeat first | refine Env.far0 ?_ (by assumption) _ | refine Env.far1 ?_ (by assumption) _ | refine Env.farA ?_ (by assumption) _); assumption))) (fun hHeld => ?_); clear hK K; (try simp only [Act.put, List.setIfInBounds_toArray, List.set_cons_zero, List.set_cons_succ]))
          refine wpAnyH_ready (rs := [4, 5]) (by kernel_rfl) (by simp) ?_
          refine hCons 4 (by decide) ?_ (hCons 5 (by decide) ?_ AllReadyH.nil)
          · (intro oi hoi; simp only [List.getElem?_toArray, List.getElem?_cons_succ, List.getElem?_cons_zero] at hoi; obtain rfl := Option.some.inj hoi; clear hoi); intro K hK
            refine step_append_l2 rfl (.tmp 23) (.tmp 26) 27 rfl w.heap.size 43 i0 (.agg #[.int .i64 0, .int .i64 0, .int .i64 0, .int .i64 0, .int .i64 0, .int .i64 0, .int .i64 0, .int .i64 0, .int .i64 0, .int .i64 0, .int .i64 0]) 11 88 Try.underlying27 hi0 hz0 hz1 hz2 rfl (by decide) enenc enenc_len (.slice (some ⟨w.heap.size, 0, none⟩) 0 0) [] (l.take k) rfl (own_empty (heap_alloc_new w (.cells #[] 43)) (Nat.le_refl _)) _ (k) (_) rfl (by simp [HLN.out]; try omega) (fun j u hj => F1.out _ (by assumption) j u hj) (enenc_one _) (by unfold maxLen; simp; omega) (by first | omega | (simp <;> omega)) (by simp) ?_
            intro v1 w1 hown1 hgrow1 hbel1 hfs1
            rw [List.nil_append] at hown1
            have hE1 := Env.kept hE (by assumption) hbel1
            refine hK.out _ _ hE1 (fun hHeld1 => ?_)
            clear hK K
            (try simp only [Act.put, List.setIfInBounds_toArray, List.set_cons_zero, List.set_cons_succ])
            have hs1 := hbel1.size
            rw [World.size_alloc] at hs1
            have hs1' : w.heap.size ≤ w1.heap.size := Nat.le_trans (Nat.le_succ _) hs1
            refine wpAnyH_ready (rs := [5]) (by kernel_rfl) (by simp) ?_
            refine hCons 5 (by decide) ?_ AllReadyH.nil
            (intro oi hoi; simp only [List.getElem?_toArray, List.getElem?_cons_succ, List.getElem?_cons_zero] at hoi; obtain rfl := Option.some.inj hoi; clear hoi); intro K hK
            go_simp
            (refine hK.out _ _ (by (first | assumption | exact Env.step (by assumption) (by assumption) | exact Env.old (by assumption) _ | exact Env.drew hE | exact hE | exact Env.drew (by assumption) | exact Env.drew (Env.old (by assumption) _) | ((repeat first | refine Env.far0 ?_ (by assumption) _ | refine Env.far1 ?_ (by assumption) _ | refine Env.farA ?_ (by assumption) _); assumption))) (fun hHeld => ?_); clear hK K; (try simp only [Act.put, List.setIfInBounds_toArray, List.set_cons_zero, List.set_cons_succ]))
            refine wpAnyH_ready (rs := [9]) (by kernel_rfl) (by simp) ?_
            refine hCons 9 (by decide) ?_ AllReadyH.nil
            (intro oi hoi; simp only [List.getElem?_toArray, List.getElem?_cons_succ, List.getElem?_cons_zero] at hoi; obtain rfl := Option.some.inj hoi; clear hoi); intro K hK
            refine step_append_l2 rfl (.tmp 28) (.tmp 31) 27 rfl w.heap.size 43 i0 (.agg #[.int .i64 0, .int .i64 0, .int .i64 0, .int .i64 0, .int .i64 0, .int .i64 0, .int .i64 0, .int .i64 0, .int .i64 0, .int .i64 0, .int .i64 0]) 11 88 Try.underlying27 hi0 hz0 hz1 hz2 rfl (by decide) enenc enenc_len (.slice (some ⟨w1.heap.size, 0, none⟩) 0 0) [] (l.drop k) rfl (own_empty (heap_alloc_new w1 (.cells #[] 43)) hs1') _ (n - k) (_) rfl (by simp [HLN.out]; try omega) (fun j u hj => F2.out _ (by assumption) j u hj) (enenc_one _) (by unfold maxLen; simp; omega) (by first | omega | (simp <;> omega)) (by simp; omega) ?_
            intro v2 w2 hown2 hgrow2 hbel2 hfs2
            rw [List.nil_append] at hown2
            have hE2 := Env.kept hE (by assumption) hbel2
            refine hK.out _ _ hE2 (fun hHeld2 => ?_)
            clear hK K
            (try simp only [Act.put, List.setIfInBounds_toArray, List.set_cons_zero, List.set_cons_succ])
            refine hTake 10 (by kernel_rfl) (by kernel_rfl) (by kernel_rfl) (by decide) (by assumption) ?_; (intro oi hoi; simp only [List.getElem?_toArray, List.getElem?_cons_succ, List.getElem?_cons_zero] at hoi; obtain rfl := Option.some.inj hoi; clear hoi); refine ⟨rfl, ?_⟩; apply Exists.intro; refine ⟨?_, fun _ _ _ h => h, ?_⟩; (intro w hSw; (try dsimp only at hSw); go_simp; (try with_reducible rfl)); (try simp only [Act.put, List.setIfInBounds_toArray, List.set_cons_zero, List.set_cons_succ])
            refine hTake 11 (by kernel_rfl) (by kernel_rfl) (by kernel_rfl) (by decide) (by assumption) ?_; (intro oi hoi; simp only [List.getElem?_toArray, List.getElem?_cons_succ, List.getElem?_cons_zero] at hoi; obtain rfl := Option.some.inj hoi; clear hoi); refine ⟨rfl, ?_⟩; apply Exists.intro; refine ⟨?_, fun _ _ _ h => h, ?_⟩; (intro w hSw; (try dsimp only at hSw); go_simp; (try with_reducible rfl)); (try simp only [Act.put, List.setIfInBounds_toArray, List.set_cons_zero, List.set_cons_succ])
            refine wpAnyH_done (by kernel_rfl) ?_ _
            go_wp2_with fail
            go_ret2
            have hkp : partN l mark = k := HST.out.symm
            have hne : v1.ownBlock = none ∨ v1.ownBlock ≠ some w1.heap.size := by
              cases hvb : v1.ownBlock with
              | none => exact .inl rfl
              | some g =>
                refine .inr (fun e => ?_)
                have e2 := Option.some.inj e
                have := (World.ownsRow.lt hown1 g hvb).2; omega

            exact ⟨v1, v2, rfl, by rw [hkp]; exact Own.grown (hown1.alloc (.cells #[] 43)) hgrow2 hne, by rw [hkp]; exact hown2, by first | exact hE2.1 | exact hE2.below⟩
          · (intro oi hoi; simp only [List.getElem?_toArray, List.getElem?_cons_succ, List.getElem?_cons_zero] at hoi; obtain rfl := Option.some.inj hoi; clear hoi); intro K hK
            go_simp
            (refine hK.out _ _ (by (first | assumption | exact Env.step (by assumption) (by assumption) | exact Env.old (by assumption) _ | exact Env.drew hE | exact hE | exact Env.drew (by assumption) | exact Env.drew (Env.old (by assumption) _) | ((repeat first | refine Env.far0 ?_ (by assumption) _ | refine Env.far1 ?_ (by assumption) _ | refine Env.farA ?_ (by assumption) _); assumption))) (fun hHeld => ?_); clear hK K; (try simp only [Act.put, List.setIfInBounds_toArray, List.set_cons_zero, List.set_cons_succ]))
            refine wpAnyH_ready (rs := [4]) (by kernel_rfl) (by simp) ?_
            refine hCons 4 (by decide) ?_ AllReadyH.nil
            (intro oi hoi; simp only [List.getElem?_toArray, List.getElem?_cons_succ, List.getElem?_cons_zero] at hoi; obtain rfl := Option.some.inj hoi; clear hoi); intro K hK
            refine step_append_l2 rfl (.tmp 23) (.tmp 26) 27 rfl w.heap.size 43 i0 (.agg #[.int .i64 0, .int .i64 0, .int .i64 0, .int .i64 0, .int .i64 0, .int .i64 0, .int .i64 0, .int .i64 0, .int .i64 0, .int .i64 0, .int .i64 0]) 11 88 Try.underlying27 hi0 hz0 hz1 hz2 rfl (by decide) enenc enenc_len (.slice (some ⟨w.heap.size, 0, none⟩) 0 0) [] (l.take k) rfl (((own_empty (heap_alloc_new (w.drewN (m + 1)) (.cells #[] 43)) (Nat.le_refl _)).alloc (.cells #[] 43))) _ (k) (_) rfl (by simp [HLN.out]; try omega) (fun j u hj => F1.out _ (by assumption) j u hj) (enenc_one _) (by unfold maxLen; simp; omega) (by first | omega | (simp <;> omega)) (by simp; try omega) ?_
            intro v1 w1 hown1 hgrow1 hbel1 hfs1
            rw [List.nil_append] at hown1
            have hE1 := Env.kept hE (by assumption) hbel1
            refine hK.out _ _ hE1 (fun hHeld1 => ?_)
            clear hK K
            (try simp only [Act.put, List.setIfInBounds_toArray, List.set_cons_zero, List.set_cons_succ])
            have hs1 := hbel1.size
            rw [World.size_alloc, World.size_alloc] at hs1
            have hs1' : w.heap.size + 1 + 1 ≤ w1.heap.size := hs1
            refine wpAnyH_ready (rs := [9]) (by kernel_rfl) (by simp) ?_
            refine hCons 9 (by decide) ?_ AllReadyH.nil
            (intro oi hoi; simp only [List.getElem?_toArray, List.getElem?_cons_succ, List.getElem?_cons_zero] at hoi; obtain rfl := Option.some.inj hoi; clear hoi); intro K hK
            refine step_append_l2 rfl (.tmp 28) (.tmp 31) 27 rfl w.heap.size 43 i0 (.agg #[.int .i64 0, .int .i64 0, .int .i64 0, .int .i64 0, .int .i64 0, .int .i64 0, .int .i64 0, .int .i64 0, .int .i64 0, .int .i64 0, .int .i64 0]) 11 88 Try.underlying27 hi0 hz0 hz1 hz2 rfl (by decide) enenc enenc_len (.slice (some ⟨w.heap.size + 1, 0, none⟩) 0 0) [] (l.drop k) rfl ((Own.grown (own_empty1 (w.drewN (m + 1))) hgrow1 (.inr (fun e => by have e3 := Option.some.inj e; simp at e3)))) _ (n - k) (_) rfl (by simp [HLN.out]; try omega) (fun j u hj => F2.out _ (by assumption) j u hj) (enenc_one _) (by unfold maxLen; simp; omega) (by first | omega | (simp <;> omega)) (by exact Nat.le_trans (by omega) hs1') ?_
            intro v2 w2 hown2 hgrow2 hbel2 hfs2
            rw [List.nil_append] at hown2
            have hE2 := Env.kept hE (by assumption) hbel2
            refine hK.out _ _ hE2 (fun hHeld2 => ?_)
            clear hK K
            (try simp only [Act.put, List.setIfInBounds_toArray, List.set_cons_zero, List.set_cons_succ])
            refine hTake 10 (by kernel_rfl) (by kernel_rfl) (by kernel_rfl) (by decide) (by assumption) ?_; (intro oi hoi; simp only [List.getElem?_toArray, List.getElem?_cons_succ, List.getElem?_cons_zero] at hoi; obtain rfl := Option.some.inj hoi; clear hoi); refine ⟨rfl, ?_⟩; apply Exists.intro; refine ⟨?_, fun _ _ _ h => h, ?_⟩; (intro w hSw; (try dsimp only at hSw); go_simp; (try with_reducible rfl)); (try simp only [Act.put, List.setIfInBounds_toArray, List.set_cons_zero, List.set_cons_succ])
            refine hTake 11 (by kernel_rfl) (by kernel_rfl) (by kernel_rfl) (by decide) (by assumption) ?_; (intro oi hoi; simp only [List.getElem?_toArray, List.getElem?_cons_succ, List.getElem?_cons_zero] at hoi; obtain rfl := Option.some.inj hoi; clear hoi); refine ⟨rfl, ?_⟩; apply Exists.intro; refine ⟨?_, fun _ _ _ h => h, ?_⟩; (intro w hSw; (try dsimp only at hSw); go_simp; (try with_reducible rfl)); (try simp only [Act.put, List.setIfInBounds_toArray, List.set_cons_zero, List.set_cons_succ])
            refine wpAnyH_done (by kernel_rfl) ?_ _
            go_wp2_with fail
            go_ret2
            have hkp : partN l mark = k := HST.out.symm
            have hne : v1.ownBlock = none ∨ v1.ownBlock ≠ some (w.heap.size + 1) := by
              cases hvb : v1.ownBlock with
              | none => exact .inl rfl
              | some g =>
                refine .inr (fun e => ?_)
                have e2 := Option.some.inj e
                rcases hfs1 with h | h
                · rw [hvb] at h; have e3 : g = w.heap.size := Option.some.inj h; omega
                · have h3 := h g hvb; rw [World.size_alloc, World.size_alloc] at h3; have h4 : w.heap.size + 1 + 1 ≤ g := h3; omega

            exact ⟨v1, v2, rfl, by rw [hkp]; exact Own.grown hown1 hgrow2 hne, by rw [hkp]; exact hown2, by first | exact hE2.1 | exact hE2.below⟩
        · (intro oi hoi; simp only [List.getElem?_toArray, List.getElem?_cons_succ, List.getElem?_cons_zero] at hoi; obtain rfl := Option.some.inj hoi; clear hoi); intro K hK
          go_simp
          (refine hK.out _ _ (by (first | assumption | exact Env.step (by assumption) (by assumption) | exact Env.old (by assumption) _ | exact Env.drew hE | exact hE | exact Env.drew (by assumption) | exact Env.drew (Env.old (by assumption) _) | ((repeat first | refine Env.far0 ?_ (by assumption) _ | refine Env.far1 ?_ (by assumption) _ | refine Env.farA ?_ (by assumption) _); assumption))) (fun hHeld => ?_); clear hK K; (try simp only [Act.put, List.setIfInBounds_toArray, List.set_cons_zero, List.set_cons_succ]))
          refine wpAnyH_ready (rs := [0]) (by kernel_rfl) (by simp) ?_
          refine hCons 0 (by decide) ?_ AllReadyH.nil
          (intro oi hoi; simp only [List.getElem?_toArray, List.getElem?_cons_zero] at hoi; obtain rfl := Option.some.inj hoi; clear hoi); intro K hK
          go_simp
          (refine hK.out _ _ (by (first | assumption | exact Env.step (by assumption) (by assumption) | exact Env.old (by assumption) _ | exact Env.drew hE | exact hE | exact Env.drew (by assumption) | exact Env.drew (Env.old (by assumption) _) | ((repeat first | refine Env.far0 ?_ (by assumption) _ | refine Env.far1 ?_ (by assumption) _ | refine Env.farA ?_ (by assumption) _); assumption))) (fun hHeld => ?_); clear hK K; (try simp only [Act.put, List.setIfInBounds_toArray, List.set_cons_zero, List.set_cons_succ]))
          refine wpAnyH_ready (rs := [4]) (by kernel_rfl) (by simp) ?_
          refine hCons 4 (by decide) ?_ AllReadyH.nil
          (intro oi hoi; simp only [List.getElem?_toArray, List.getElem?_cons_succ, List.getElem?_cons_zero] at hoi; obtain rfl := Option.some.inj hoi; clear hoi); intro K hK
          refine step_append_l2 rfl (.tmp 23) (.tmp 26) 27 rfl w.heap.size 43 i0 (.agg #[.int .i64 0, .int .i64 0, .int .i64 0, .int .i64 0, .int .i64 0, .int .i64 0, .int .i64 0, .int .i64 0, .int .i64 0, .int .i64 0, .int .i64 0]) 11 88 Try.underlying27 hi0 hz0 hz1 hz2 rfl (by decide) enenc enenc_len (.slice (some ⟨w.heap.size + 1, 0, none⟩) 0 0) [] (l.take k) rfl ((own_empty1 (w.drewN (m + 1)))) _ (k) (_) rfl (by simp [HLN.out]; try omega) (fun j u hj => F1.out _ (by assumption) j u hj) (enenc_one _) (by unfold maxLen; simp; omega) (by first | omega | (simp <;> omega)) (by simp; try omega) ?_
          intro v1 w1 hown1 hgrow1 hbel1 hfs1
          rw [List.nil_append] at hown1
          have hE1 := Env.kept hE (by assumption) hbel1
          refine hK.out _ _ hE1 (fun hHeld1 => ?_)
          clear hK K
          (try simp only [Act.put, List.setIfInBounds_toArray, List.set_cons_zero, List.set_cons_succ])
          have hs1 := hbel1.size
          rw [World.size_alloc, World.size_alloc] at hs1
          have hs1' : w.heap.size + 1 + 1 ≤ w1.heap.size := hs1
          refine wpAnyH_ready (rs := [9]) (by kernel_rfl) (by simp) ?_
          refine hCons 9 (by decide) ?_ AllReadyH.nil
          (intro oi hoi; simp only [List.getElem?_toArray, List.getElem?_cons_succ, List.getElem?_cons_zero] at hoi; obtain rfl := Option.some.inj hoi; clear hoi); intro K hK
          refine step_append_l2 rfl (.tmp 28) (.tmp 31) 27 rfl w.heap.size 43 i0 (.agg #[.int .i64 0, .int .i64 0, .int .i64 0, .int .i64 0, .int .i64 0, .int .i64 0, .int .i64 0, .int .i64 0, .int .i64 0, .int .i64 0, .int .i64 0]) 11 88 Try.underlying27 hi0 hz0 hz1 hz2 rfl (by decide) enenc enenc_len (.slice (some ⟨w.heap.size, 0, none⟩) 0 0) [] (l.drop k) rfl ((Own.grown ((own_empty (heap_alloc_new (w.drewN (m + 1)) (.cells #[] 43)) (Nat.le_refl _)).alloc (.cells #[] 43)) hgrow1 (.inr (fun e => by have e3 := Option.some.inj e; simp at e3)))) _ (n - k) (_) rfl (by simp [HLN.out]; try omega) (fun j u hj => F2.out _ (by assumption) j u hj) (enenc_one _) (by unfold maxLen; simp; omega) (by first | omega | (simp <;> omega)) (by exact Nat.le_trans (by omega) hs1') ?_
          intro v2 w2 hown2 hgrow2 hbel2 hfs2
          rw [List.nil_append] at hown2
          have hE2 := Env.kept hE (by assumption) hbel2
          refine hK.out _ _ hE2 (fun hHeld2 => ?_)
          clear hK K
          (try simp only [Act.put, List.setIfInBounds_toArray, List.set_cons_zero, List.set_cons_succ])
          refine hTake 10 (by kernel_rfl) (by kernel_rfl) (by kernel_rfl) (by decide) (by assumption) ?_; (intro oi hoi; simp only [List.getElem?_toArray, List.getElem?_cons_succ, List.getElem?_cons_zero] at hoi; obtain rfl := Option.some.inj hoi; clear hoi); refine ⟨rfl, ?_⟩; apply Exists.intro; refine ⟨?_, fun _ _ _ h => h, ?_⟩; (intro w hSw; (try dsimp only at hSw); go_simp; (try with_reducible rfl)); (try simp only [Act.put, List.setIfInBounds_toArray, List.set_cons_zero, List.set_cons_succ])
          refine hTake 11 (by kernel_rfl) (by kernel_rfl) (by kernel_rfl) (by decide) (by assumption) ?_; (intro oi hoi; simp only [List.getElem?_toArray, List.getElem?_cons_succ, List.getElem?_cons_zero] at hoi; obtain rfl := Option.some.inj hoi; clear hoi); refine ⟨rfl, ?_⟩; apply Exists.intro; refine ⟨?_, fun _ _ _ h => h, ?_⟩; (intro w hSw; (try dsimp only at hSw); go_simp; (try with_reducible rfl)); (try simp only [Act.put, List.setIfInBounds_toArray, List.set_cons_zero, List.set_cons_succ])
          refine wpAnyH_done (by kernel_rfl) ?_ _
          go_wp2_with fail
          go_ret2
          have hkp : partN l mark = k := HST.out.symm
          have hne : v1.ownBlock = none ∨ v1.ownBlock ≠ some w.heap.size := by
            cases hvb : v1.ownBlock with
            | none => exact .inl rfl
            | some g =>
              refine .inr (fun e => ?_)
              have e2 := Option.some.inj e
              rcases hfs1 with h | h
              · rw [hvb] at h; have e3 : g = w.heap.size + 1 := Option.some.inj h; omega
              · have h3 := h g hvb; rw [World.size_alloc, World.size_alloc] at h3; have h4 : w.heap.size + 1 + 1 ≤ g := h3; omega

          exact ⟨v1, v2, rfl, by rw [hkp]; exact Own.grown hown1 hgrow2 hne, by rw [hkp]; exact hown2, by first | exact hE2.1 | exact hE2.below⟩
    · have d1 : decide ((k : Int) < (n : Int)) = false := by simp; omega
      have d1' : decide (k < n) = false := by simp [hlt]
      have t1 : (k : Int) ≤ (c : Int) := by omega
      have t2 : (k : Int) ≤ (n : Int) := by omega
      have t3 : k ≤ c := by omega
      have t4 : k ≤ n := by omega
      have k1 : (0 : Int) ≤ (k : Int) := by omega
      have hst : k = (l.takeWhile (endsE mark)).length := by
        have h := HK.out
        rw [HN.out] at h
        have h2 := partN_le l mark
        rw [HLN.out] at h2
        show k = partN l mark
        omega
      have HST := Lib.hid hst
      clear hst
      by_cases hck : c = k
      · have hL := Loc.nil (w.drewN m)
        obtain ⟨lE, hE, hR⟩ := Env.abs (w0 := w) (below_drewN (Below.refl _ _) m) hL
        go_wp2_with fail
        have hflat1 : ∀ X, Env w lE X → ∀ j u, ((l.take k).flatMap enenc)[j]? = some u → X.cell? ((⟨b, off, none⟩ : Addr).add j) = some u := fun X hX j u hj =>
          (hX.1.cell (p := (⟨b, off, none⟩ : Addr).add j) (by unfold Addr.add; split <;> simpa using hbB)).trans (rd_flat enenc_len hr j u (flat_pre k hj))
        have hflat2 : ∀ X, Env w lE X → ∀ j u, ((l.drop k).flatMap enenc)[j]? = some u → X.cell? ((⟨b, off, none⟩ : Addr).add j) = some u := fun X hX j u hj => by
          have hd : l.drop k = [] := List.drop_eq_nil_of_le (by rw [HLN.out]; omega)
          rw [hd] at hj
          simp at hj
        have F1 := Lib.hid hflat1
        have F2 := Lib.hid hflat2
        clear hflat1 hflat2
        refine wp_region_held_drew (S := Env w lE) (by kernel_rfl) (by (first | assumption | exact Env.step (by assumption) (by assumption) | exact Env.old (by assumption) _ | exact Env.drew hE | exact hE | exact Env.drew (by assumption) | exact Env.drew (Env.old (by assumption) _) | ((repeat first | refine Env.far0 ?_ (by assumption) _ | refine Env.far1 ?_ (by assumption) _ | refine Env.farA ?_ (by assumption) _); assumption))) (fun hHeld => ?_)
        refine hTake 1 (by kernel_rfl) (by kernel_rfl) (by kernel_rfl) (by decide) (by assumption) ?_; (intro oi hoi; simp only [List.getElem?_toArray, List.getElem?_cons_succ, List.getElem?_cons_zero] at hoi; obtain rfl := Option.some.inj hoi; clear hoi); refine ⟨rfl, ?_⟩; apply Exists.intro; refine ⟨?_, fun _ _ _ h => h, ?_⟩; (intro w hSw; (try dsimp only at hSw); go_simp; (try with_reducible rfl)); (try simp only [Act.put, List.setIfInBounds_toArray, List.set_cons_zero, List.set_cons_succ]); refine hTake 2 (by kernel_rfl) (by kernel_rfl) (by kernel_rfl) (by decide) (by assumption) ?_; (intro oi hoi; simp only [List.getElem?_toArray, List.getElem?_cons_succ, List.getElem?_cons_zero] at hoi; obtain rfl := Option.some.inj hoi; clear hoi); refine ⟨rfl, ?_⟩; apply Exists.intro; refine ⟨?_, fun _ _ _ h => h, ?_⟩; (intro w hSw; (try dsimp only at hSw); go_simp; (try with_reducible rfl)); (try simp only [Act.put, List.setIfInBounds_toArray, List.set_cons_zero, List.set_cons_succ])
        refine hTake 3 (by kernel_rfl) (by kernel_rfl) (by kernel_rfl) (by decide) (by assumption) ?_; (intro oi hoi; simp only [List.getElem?_toArray, List.getElem?_cons_succ, List.getElem?_cons_zero] at hoi; obtain rfl := Option.some.inj hoi; clear hoi); refine ⟨rfl, ?_⟩; apply Exists.intro; refine ⟨?_, fun _ _ _ h => h, ?_⟩; (intro w hSw; (try dsimp only at hSw); go_simp; (try with_reducible rfl)); (try simp only [Act.put, List.setIfInBounds_toArray, List.set_cons_zero, List.set_cons_succ])
        refine hTake 6 (by kernel_rfl) (by kernel_rfl) (by kernel_rfl) (by decide) (by assumption) ?_; (intro oi hoi; simp only [List.getElem?_toArray, List.getElem?_cons_succ, List.getElem?_cons_zero] at hoi; obtain rfl := Option.some.inj hoi; clear hoi); refine ⟨rfl, ?_⟩; apply Exists.intro; refine ⟨?_, fun _ _ _ h => h, ?_⟩; (intro w hSw; (try dsimp only at hSw); go_simp; (try with_reducible rfl)); (try simp only [Act.put, List.setIfInBounds_toArray, List.set_cons_zero, List.set_cons_succ]); refine hTake 7 (by kernel_rfl) (by kernel_rfl) (by kernel_rfl) (by decide) (by assumption) ?_; (intro oi hoi; simp only [List.getElem?_toArray, List.getElem?_cons_succ, List.getElem?_cons_zero] at hoi; obtain rfl := Option.some.inj hoi; clear hoi); refine ⟨rfl, ?_⟩; apply Exists.intro; refine ⟨?_, fun _ _ _ h => h, ?_⟩; (intro w hSw; (try dsimp only at hSw); go_simp; (try with_reducible rfl)); (try simp only [Act.put, List.setIfInBounds_toArray, List.set_cons_zero, List.set_cons_succ])
        refine hTake 8 (by kernel_rfl) (by kernel_rfl) (by kernel_rfl) (by decide) (by assumption) ?_; (intro oi hoi; simp only [List.getElem?_toArray, List.getElem?_cons_succ, List.getElem?_cons_zero] at hoi; obtain rfl := Option.some.inj hoi; clear hoi); refine ⟨rfl, ?_⟩; apply Exists.intro; refine ⟨?_, fun _ _ _ h => h, ?_⟩; (intro w hSw; (try dsimp only at hSw); go_simp; (try with_reducible rfl)); (try simp only [Act.put, List.setIfInBounds_toArray, List.set_cons_zero, List.set_cons_succ])
        refine wpAnyH_ready (rs := [0, 5]) (by kernel_rfl) (by simp) ?_
        refine hCons 0 (by decide) ?_ (hCons 5 (by decide) ?_ AllReadyH.nil)
        · (intro oi hoi; simp only [List.getElem?_toArray, List.getElem?_cons_zero] at hoi; obtain rfl := Option.some.inj hoi; clear hoi); intro K hK
          go_simp
          (refine hK.out _ _ (by (first | assumption | exact Env.step (by assumption) (by assumption) | exact Env.old (by assumption) _ | exact Env.drew hE | exact hE | exact Env.drew (by assumption) | exact Env.drew (Env.old (by assumption) _) | ((repeat first | refine Env.far0 ?_ (by assumption) _ | refine Env.far1 ?_ (by assumption) _ | refine Env.farA ?_ (by assumption) _); assumption))) (fun hHeld => ?_); clear hK K; (try simp only [Act.put, List.setIfInBounds_toArray, List.set_cons_zero, List.set_cons_succ]))
          refine wpAnyH_ready (rs := [4, 5]) (by kernel_rfl) (by simp) ?_
          refine hCons 4 (by decide) ?_ (hCons 5 (by decide) ?_ AllReadyH.nil)
          · (intro oi hoi; simp only [List.getElem?_toArray, List.getElem?_cons_succ, List.getElem?_cons_zero] at hoi; obtain rfl := Option.some.inj hoi; clear hoi); intro K hK
            refine step_append_l2 rfl (.tmp 23) (.tmp 26) 27 rfl w.heap.size 43 i0 (.agg #[.int .i64 0, .int .i64 0, .int .i64 0, .int .i64 0, .int .i64 0, .int .i64 0, .int .i64 0, .int .i64 0, .int .i64 0, .int .i64 0, .int .i64 0]) 11 88 Try.underlying27 hi0 hz0 hz1 hz2 rfl (by decide) enenc enenc_len (.slice (some ⟨w.heap.size, 0, none⟩) 0 0) [] (l.take k) rfl (own_empty (heap_alloc_new w (.cells #[] 43)) (Nat.le_refl _)) _ (k) (_) rfl (by simp [HLN.out]; try omega) (fun j u hj => F1.out _ (by assumption) j u hj) (enenc_one _) (by unfold maxLen; simp; omega) (by first | omega | (simp <;> omega)) (by simp) ?_
            intro v1 w1 hown1 hgrow1 hbel1 hfs1
            rw [List.nil_append] at hown1
            have hE1 := Env.kept hE (by assumption) hbel1
            refine hK.out _ _ hE1 (fun hHeld1 => ?_)
            clear hK K
            (try simp only [Act.put, List.setIfInBounds_toArray, List.set_cons_zero, List.set_cons_succ])
            have hs1 := hbel1.size
            rw [World.size_alloc] at hs1
            have hs1' : w.heap.size ≤ w1.heap.size := Nat.le_trans (Nat.le_succ _) hs1
            refine wpAnyH_ready (rs := [5]) (by kernel_rfl) (by simp) ?_
            refine hCons 5 (by decide) ?_ AllReadyH.nil
            (intro oi hoi; simp only [List.getElem?_toArray, List.getElem?_cons_succ, List.getElem?_cons_zero] at hoi; obtain rfl := Option.some.inj hoi; clear hoi); intro K hK
            go_simp
            (refine hK.out _ _ (by (first | assumption | exact Env.step (by assumption) (by assumption) | exact Env.old (by assumption) _ | exact Env.drew hE | exact hE | exact Env.drew (by assumption) | exact Env.drew (Env.old (by assumption) _) | ((repeat first | refine Env.far0 ?_ (by assumption) _ | refine Env.far1 ?_ (by assumption) _ | refine Env.farA ?_ (by assumption) _); assumption))) (fun hHeld => ?_); clear hK K; (try simp only [Act.put, List.setIfInBounds_toArray, List.set_cons_zero, List.set_cons_succ]))
            refine wpAnyH_ready (rs := [9]) (by kernel_rfl) (by simp) ?_
            refine hCons 9 (by decide) ?_ AllReadyH.nil
            (intro oi hoi; simp only [List.getElem?_toArray, List.getElem?_cons_succ, List.getElem?_cons_zero] at hoi; obtain rfl := Option.some.inj hoi; clear hoi); intro K hK
            refine step_append_l2 rfl (.tmp 28) (.tmp 31) 27 rfl w.heap.size 43 i0 (.agg #[.int .i64 0, .int .i64 0, .int .i64 0, .int .i64 0, .int .i64 0, .int .i64 0, .int .i64 0, .int .i64 0, .int .i64 0, .int .i64 0, .int .i64 0]) 11 88 Try.underlying27 hi0 hz0 hz1 hz2 rfl (by decide) enenc enenc_len (.slice (some ⟨w1.heap.size, 0, none⟩) 0 0) [] (l.drop k) rfl (own_empty (heap_alloc_new w1 (.cells #[] 43)) hs1') _ (n - k) (_) rfl (by simp [HLN.out]; try omega) (fun j u hj => F2.out _ (by assumption) j u hj) (enenc_one _) (by unfold maxLen; simp; omega) (by first | omega | (simp <;> omega)) (by simp; omega) ?_
            intro v2 w2 hown2 hgrow2 hbel2 hfs2
            rw [List.nil_append] at hown2
            have hE2 := Env.kept hE (by assumption) hbel2
            refine hK.out _ _ hE2 (fun hHeld2 => ?_)
            clear hK K
            (try simp only [Act.put, List.setIfInBounds_toArray, List.set_cons_zero, List.set_cons_succ])
            refine hTake 10 (by kernel_rfl) (by kernel_rfl) (by kernel_rfl) (by decide) (by assumption) ?_; (intro oi hoi; simp only [List.getElem?_toArray, List.getElem?_cons_succ, List.getElem?_cons_zero] at hoi; obtain rfl := Option.some.inj hoi; clear hoi); refine ⟨rfl, ?_⟩; apply Exists.intro; refine ⟨?_, fun _ _ _ h => h, ?_⟩; (intro w hSw; (try dsimp only at hSw); go_simp; (try with_reducible rfl)); (try simp only [Act.put, List.setIfInBounds_toArray, List.set_cons_zero, List.set_cons_succ])
            refine hTake 11 (by kernel_rfl) (by kernel_rfl) (by kernel_rfl) (by decide) (by assumption) ?_; (intro oi hoi; simp only [List.getElem?_toArray, List.getElem?_cons_succ, List.getElem?_cons_zero] at hoi; obtain rfl := Option.some.inj hoi; clear hoi); refine ⟨rfl, ?_⟩; apply Exists.intro; refine ⟨?_, fun _ _ _ h => h, ?_⟩; (intro w hSw; (try dsimp only at hSw); go_simp; (try with_reducible rfl)); (try simp only [Act.put, List.setIfInBounds_toArray, List.set_cons_zero, List.set_cons_succ])
            refine wpAnyH_done (by kernel_rfl) ?_ _
            go_wp2_with fail
            go_ret2
            have hkp : partN l mark = k := HST.out.symm
            have hne : v1.ownBlock = none ∨ v1.ownBlock ≠ some w1.heap.size := by
              cases hvb : v1.ownBlock with
              | none => exact .inl rfl
              | some g =>
                refine .inr (fun e => ?_)
                have e2 := Option.some.inj e
                have := (World.ownsRow.lt hown1 g hvb).2; omega

            exact ⟨v1, v2, rfl, by rw [hkp]; exact Own.grown (hown1.alloc (.cells #[] 43)) hgrow2 hne, by rw [hkp]; exact hown2, by first | exact hE2.1 | exact hE2.below⟩
          · (intro oi hoi; simp only [List.getElem?_toArray, List.getElem?_cons_succ, List.getElem?_cons_zero] at hoi; obtain rfl := Option.some.inj hoi; clear hoi); intro K hK
            go_simp
            (refine hK.out _ _ (by (first | assumption | exact Env.step (by assumption) (by assumption) | exact Env.old (by assumption) _ | exact Env.drew hE | exact hE | exact Env.drew (by assumption) | exact Env.drew (Env.old (by assumption) _) | ((repeat first | refine Env.far0 ?_ (by assumption) _ | refine Env.far1 ?_ (by assumption) _ | refine Env.farA ?_ (by assumption) _); assumption))) (fun hHeld => ?_); clear hK K; (try simp only [Act.put, List.setIfInBounds_toArray, List.set_cons_zero, List.set_cons_succ]))
            refine wpAnyH_ready (rs := [4]) (by kernel_rfl) (by simp) ?_
            refine hCons 4 (by decide) ?_ AllReadyH.nil
            (intro oi hoi; simp only [List.getElem?_toArray, List.getElem?_cons_succ, List.getElem?_cons_zero] at hoi; obtain rfl := Option.some.inj hoi; clear hoi); intro K hK
            refine step_append_l2 rfl (.tmp 23) (.tmp 26) 27 rfl w.heap.size 43 i0 (.agg #[.int .i64 0, .int .i64 0, .int .i64 0, .int .i64 0, .int .i64 0, .int .i64 0, .int .i64 0, .int .i64 0, .int .i64 0, .int .i64 0, .int .i64 0]) 11 88 Try.underlying27 hi0 hz0 hz1 hz2 rfl (by decide) enenc enenc_len (.slice (some ⟨w.heap.size, 0, none⟩) 0 0) [] (l.take k) rfl (((own_empty (heap_alloc_new (w.drewN (m + 1)) (.cells #[] 43)) (Nat.le_refl _)).alloc (.cells #[] 43))) _ (k) (_) rfl (by simp [HLN.out]; try omega) (fun j u hj => F1.out _ (by assumption) j u hj) (enenc_one _) (by unfold maxLen; simp; omega) (by first | omega | (simp <;> omega)) (by simp; try omega) ?_
            intro v1 w1 hown1 hgrow1 hbel1 hfs1
            rw [List.nil_append] at hown1
            have hE1 := Env.kept hE (by assumption) hbel1
            refine hK.out _ _ hE1 (fun hHeld1 => ?_)
            clear hK K
            (try simp only [Act.put, List.setIfInBounds_toArray, List.set_cons_zero, List.set_cons_succ])
            have hs1 := hbel1.size
            rw [World.size_alloc, World.size_alloc] at hs1
            have hs1' : w.heap.size + 1 + 1 ≤ w1.heap.size := hs1
            refine wpAnyH_ready (rs := [9]) (by kernel_rfl) (by simp) ?_
            refine hCons 9 (by decide) ?_ AllReadyH.nil
            (intro oi hoi; simp only [List.getElem?_toArray, List.getElem?_cons_succ, List.getElem?_cons_zero] at hoi; obtain rfl := Option.some.inj hoi; clear hoi); intro K hK
            refine step_append_l2 rfl (.tmp 28) (.tmp 31) 27 rfl w.heap.size 43 i0 (.agg #[.int .i64 0, .int .i64 0, .int .i64 0, .int .i64 0, .int .i64 0, .int .i64 0, .int .i64 0, .int .i64 0, .int .i64 0, .int .i64 0, .int .i64 0]) 11 88 Try.underlying27 hi0 hz0 hz1 hz2 rfl (by decide) enenc enenc_len (.slice (some ⟨w.heap.size + 1, 0, none⟩) 0 0) [] (l.drop k) rfl ((Own.grown (own_empty1 (w.drewN (m + 1))) hgrow1 (.inr (fun e => by have e3 := Option.some.inj e; simp at e3)))) _ (n - k) (_) rfl (by simp [HLN.out]; try omega) (fun j u hj => F2.out _ (by assumption) j u hj) (enenc_one _) (by unfold maxLen; simp; omega) (by first | omega | (simp <;> omega)) (by exact Nat.le_trans (by omega) hs1') ?_
            intro v2 w2 hown2 hgrow2 hbel2 hfs2
            rw [List.nil_append] at hown2
            have hE2 := Env.kept hE (by assumption) hbel2
            refine hK.out _ _ hE2 (fun hHeld2 => ?_)
            clear hK K
            (try simp only [Act.put, List.setIfInBounds_toArray, List.set_cons_zero, List.set_cons_succ])
            refine hTake 10 (by kernel_rfl) (by kernel_rfl) (by kernel_rfl) (by decide) (by assumption) ?_; (intro oi hoi; simp only [List.getElem?_toArray, List.getElem?_cons_succ, List.getElem?_cons_zero] at hoi; obtain rfl := Option.some.inj hoi; clear hoi); refine ⟨rfl, ?_⟩; apply Exists.intro; refine ⟨?_, fun _ _ _ h => h, ?_⟩; (intro w hSw; (try dsimp only at hSw); go_simp; (try with_reducible rfl)); (try simp only [Act.put, List.setIfInBounds_toArray, List.set_cons_zero, List.set_cons_succ])
            refine hTake 11 (by kernel_rfl) (by kernel_rfl) (by kernel_rfl) (by decide) (by assumption) ?_; (intro oi hoi; simp only [List.getElem?_toArray, List.getElem?_cons_succ, List.getElem?_cons_zero] at hoi; obtain rfl := Option.some.inj hoi; clear hoi); refine ⟨rfl, ?_⟩; apply Exists.intro; refine ⟨?_, fun _ _ _ h => h, ?_⟩; (intro w hSw; (try dsimp only at hSw); go_simp; (try with_reducible rfl)); (try simp only [Act.put, List.setIfInBounds_toArray, List.set_cons_zero, List.set_cons_succ])
            refine wpAnyH_done (by kernel_rfl) ?_ _
            go_wp2_with fail
            go_ret2
            have hkp : partN l mark = k := HST.out.symm
            have hne : v1.ownBlock = none ∨ v1.ownBlock ≠ some (w.heap.size + 1) := by
              cases hvb : v1.ownBlock with
              | none => exact .inl rfl
              | some g =>
                refine .inr (fun e => ?_)
                have e2 := Option.some.inj e
                rcases hfs1 with h | h
                · rw [hvb] at h; have e3 : g = w.heap.size := Option.some.inj h; omega
                · have h3 := h g hvb; rw [World.size_alloc, World.size_alloc] at h3; have h4 : w.heap.size + 1 + 1 ≤ g := h3; omega

            exact ⟨v1, v2, rfl, by rw [hkp]; exact Own.grown hown1 hgrow2 hne, by rw [hkp]; exact hown2, by first | exact hE2.1 | exact hE2.below⟩
        · (intro oi hoi; simp only [List.getElem?_toArray, List.getElem?_cons_succ, List.getElem?_cons_zero] at hoi; obtain rfl := Option.some.inj hoi; clear hoi); intro K hK
          go_simp
          (refine hK.out _ _ (by (first | assumption | exact Env.step (by assumption) (by assumption) | exact Env.old (by assumption) _ | exact Env.drew hE | exact hE | exact Env.drew (by assumption) | exact Env.drew (Env.old (by assumption) _) | ((repeat first | refine Env.far0 ?_ (by assumption) _ | refine Env.far1 ?_ (by assumption) _ | refine Env.farA ?_ (by assumption) _); assumption))) (fun hHeld => ?_); clear hK K; (try simp only [Act.put, List.setIfInBounds_toArray, List.set_cons_zero, List.set_cons_succ]))
          refine wpAnyH_ready (rs := [0]) (by kernel_rfl) (by simp) ?_
          refine hCons 0 (by decide) ?_ AllReadyH.nil
          (intro oi hoi; simp only [List.getElem?_toArray, List.getElem?_cons_zero] at hoi; obtain rfl := Option.some.inj hoi; clear hoi); intro K hK
          go_simp
          (refine hK.out _ _ (by (first | assumption | exact Env.step (by assumption) (by assumption) | exact Env.old (by assumption) _ | exact Env.drew hE | exact hE | exact Env.drew (by assumption) | exact Env.drew (Env.old (by assumption) _) | ((repeat first | refine Env.far0 ?_ (by assumption) _ | refine Env.far1 ?_ (by assumption) _ | refine Env.farA ?_ (by assumption) _); assumption))) (fun hHeld => ?_); clear hK K; (try simp only [Act.put, List.setIfInBounds_toArray, List.set_cons_zero, List.set_cons_succ]))
          refine wpAnyH_ready (rs := [4]) (by kernel_rfl) (by simp) ?_
          refine hCons 4 (by decide) ?_ AllReadyH.nil
          (intro oi hoi; simp only [List.getElem?_toArray, List.getElem?_cons_succ, List.getElem?_cons_zero] at hoi; obtain rfl := Option.some.inj hoi; clear hoi); intro K hK
          refine step_append_l2 rfl (.tmp 23) (.tmp 26) 27 rfl w.heap.size 43 i0 (.agg #[.int .i64 0, .int .i64 0, .int .i64 0, .int .i64 0, .int .i64 0, .int .i64 0, .int .i64 0, .int .i64 0, .int .i64 0, .int .i64 0, .int .i64 0]) 11 88 Try.underlying27 hi0 hz0 hz1 hz2 rfl (by decide) enenc enenc_len (.slice (some ⟨w.heap.size + 1, 0, none⟩) 0 0) [] (l.take k) rfl ((own_empty1 (w.drewN (m + 1)))) _ (k) (_) rfl (by simp [HLN.out]; try omega) (fun j u hj => F1.out _ (by assumption) j u hj) (enenc_one _) (by unfold maxLen; simp; omega) (by first | omega | (simp <;> omega)) (by simp; try omega) ?_
          intro v1 w1 hown1 hgrow1 hbel1 hfs1
          rw [List.nil_append] at hown1
          have hE1 := Env.kept hE (by assumption) hbel1
          refine hK.out _ _ hE1 (fun hHeld1 => ?_)
          clear hK K
          (try simp only [Act.put, List.setIfInBounds_toArray, List.set_cons_zero, List.set_cons_succ])
          have hs1 := hbel1.size
          rw [World.size_alloc, World.size_alloc] at hs1
          have hs1' : w.heap.size + 1 + 1 ≤ w1.heap.size := hs1
          refine wpAnyH_ready (rs := [9]) (by kernel_rfl) (by simp) ?_
          refine hCons 9 (by decide) ?_ AllReadyH.nil
          (intro oi hoi; simp only [List.getElem?_toArray, List.getElem?_cons_succ, List.getElem?_cons_zero] at hoi; obtain rfl := Option.some.inj hoi; clear hoi); intro K hK
          refine step_append_l2 rfl (.tmp 28) (.tmp 31) 27 rfl w.heap.size 43 i0 (.agg #[.int .i64 0, .int .i64 0, .int .i64 0, .int .i64 0, .int .i64 0, .int .i64 0, .int .i64 0, .int .i64 0, .int .i64 0, .int .i64 0, .int .i64 0]) 11 88 Try.underlying27 hi0 hz0 hz1 hz2 rfl (by decide) enenc enenc_len (.slice (some ⟨w.heap.size, 0, none⟩) 0 0) [] (l.drop k) rfl ((Own.grown ((own_empty (heap_alloc_new (w.drewN (m + 1)) (.cells #[] 43)) (Nat.le_refl _)).alloc (.cells #[] 43)) hgrow1 (.inr (fun e => by have e3 := Option.some.inj e; simp at e3)))) _ (n - k) (_) rfl (by simp [HLN.out]; try omega) (fun j u hj => F2.out _ (by assumption) j u hj) (enenc_one _) (by unfold maxLen; simp; omega) (by first | omega | (simp <;> omega)) (by exact Nat.le_trans (by omega) hs1') ?_
          intro v2 w2 hown2 hgrow2 hbel2 hfs2
          rw [List.nil_append] at hown2
          have hE2 := Env.kept hE (by assumption) hbel2
          refine hK.out _ _ hE2 (fun hHeld2 => ?_)
          clear hK K
          (try simp only [Act.put, List.setIfInBounds_toArray, List.set_cons_zero, List.set_cons_succ])
          refine hTake 10 (by kernel_rfl) (by kernel_rfl) (by kernel_rfl) (by decide) (by assumption) ?_; (intro oi hoi; simp only [List.getElem?_toArray, List.getElem?_cons_succ, List.getElem?_cons_zero] at hoi; obtain rfl := Option.some.inj hoi; clear hoi); refine ⟨rfl, ?_⟩; apply Exists.intro; refine ⟨?_, fun _ _ _ h => h, ?_⟩; (intro w hSw; (try dsimp only at hSw); go_simp; (try with_reducible rfl)); (try simp only [Act.put, List.setIfInBounds_toArray, List.set_cons_zero, List.set_cons_succ])
          refine hTake 11 (by kernel_rfl) (by kernel_rfl) (by kernel_rfl) (by decide) (by assumption) ?_; (intro oi hoi; simp only [List.getElem?_toArray, List.getElem?_cons_succ, List.getElem?_cons_zero] at hoi; obtain rfl := Option.some.inj hoi; clear hoi); refine ⟨rfl, ?_⟩; apply Exists.intro; refine ⟨?_, fun _ _ _ h => h, ?_⟩; (intro w hSw; (try dsimp only at hSw); go_simp; (try with_reducible rfl)); (try simp only [Act.put, List.setIfInBounds_toArray, List.set_cons_zero, List.set_cons_succ])
          refine wpAnyH_done (by kernel_rfl) ?_ _
          go_wp2_with fail
          go_ret2
          have hkp : partN l mark = k := HST.out.symm
          have hne : v1.ownBlock = none ∨ v1.ownBlock ≠ some w.heap.size := by
            cases hvb : v1.ownBlock with
            | none => exact .inl rfl
            | some g =>
              refine .inr (fun e => ?_)
              have e2 := Option.some.inj e
              rcases hfs1 with h | h
              · rw [hvb] at h; have e3 : g = w.heap.size + 1 := Option.some.inj h; omega
              · have h3 := h g hvb; rw [World.size_alloc, World.size_alloc] at h3; have h4 : w.heap.size + 1 + 1 ≤ g := h3; omega

          exact ⟨v1, v2, rfl, by rw [hkp]; exact Own.grown hown1 hgrow2 hne, by rw [hkp]; exact hown2, by first | exact hE2.1 | exact hE2.below⟩
      · have hL := Loc.nil (w.drewN m)
        obtain ⟨lE, hE, hR⟩ := Env.abs (w0 := w) (below_drewN (Below.refl _ _) m) hL
        go_wp2_with fail
        have hflat1 : ∀ X, Env w lE X → ∀ j u, ((l.take k).flatMap enenc)[j]? = some u → X.cell? ((⟨b, off, none⟩ : Addr).add j) = some u := fun X hX j u hj =>
          (hX.1.cell (p := (⟨b, off, none⟩ : Addr).add j) (by unfold Addr.add; split <;> simpa using hbB)).trans (rd_flat enenc_len hr j u (flat_pre k hj))
        have hflat2 : ∀ X, Env w lE X → ∀ j u, ((l.drop k).flatMap enenc)[j]? = some u → X.cell? ((⟨b, off + k * 11, none⟩ : Addr).add j) = some u := fun X hX j u hj => by
          have h := (hX.1.cell (p := (⟨b, off, none⟩ : Addr).add (k * 11 + j)) (by unfold Addr.add; split <;> simpa using hbB)).trans (rd_flat enenc_len hr (k * 11 + j) u (flat_post k (by rw [HLN.out]; exact t4) hj))
          rw [Addr.add_lit] at h ⊢
          rw [Nat.add_assoc]
          exact h
        have F1 := Lib.hid hflat1
        have F2 := Lib.hid hflat2
        clear hflat1 hflat2
        refine wp_region_held_drew (S := Env w lE) (by kernel_rfl) (by (first | assumption | exact Env.step (by assumption) (by assumption) | exact Env.old (by assumption) _ | exact Env.drew hE | exact hE | exact Env.drew (by assumption) | exact Env.drew (Env.old (by assumption) _) | ((repeat first | refine Env.far0 ?_ (by assumption) _ | refine Env.far1 ?_ (by assumption) _ | refine Env.farA ?_ (by assumption) _); assumption))) (fun hHeld => ?_)
        refine hTake 1 (by kernel_rfl) (by kernel_rfl) (by kernel_rfl) (by decide) (by assumption) ?_; (intro oi hoi; simp only [List.getElem?_toArray, List.getElem?_cons_succ, List.getElem?_cons_zero] at hoi; obtain rfl := Option.some.inj hoi; clear hoi); refine ⟨rfl, ?_⟩; apply Exists.intro; refine ⟨?_, fun _ _ _ h => h, ?_⟩; (intro w hSw; (try dsimp only at hSw); go_simp; (try with_reducible rfl)); (try simp only [Act.put, List.setIfInBounds_toArray, List.set_cons_zero, List.set_cons_succ]); refine hTake 2 (by kernel_rfl) (by kernel_rfl) (by kernel_rfl) (by decide) (by assumption) ?_; (intro oi hoi; simp only [List.getElem?_toArray, List.getElem?_cons_succ, List.getElem?_cons_zero] at hoi; obtain rfl := Option.some.inj hoi; clear hoi); refine ⟨rfl, ?_⟩; apply Exists.intro; refine ⟨?_, fun _ _ _ h => h, ?_⟩; (intro w hSw; (try dsimp only at hSw); go_simp; (try with_reducible rfl)); (try simp only [Act.put, List.setIfInBounds_toArray, List.set_cons_zero, List.set_cons_succ])
        refine hTake 3 (by kernel_rfl) (by kernel_rfl) (by kernel_rfl) (by decide) (by assumption) ?_; (intro oi hoi; simp only [List.getElem?_toArray, List.getElem?_cons_succ, List.getElem?_cons_zero] at hoi; obtain rfl := Option.some.inj hoi; clear hoi); refine ⟨rfl, ?_⟩; apply Exists.intro; refine ⟨?_, fun _ _ _ h => h, ?_⟩; (intro w hSw; (try dsimp only at hSw); go_simp; (try with_reducible rfl)); (try simp only [Act.put, List.setIfInBounds_toArray, List.set_cons_zero, List.set_cons_succ])
        refine hTake 6 (by kernel_rfl) (by kernel_rfl) (by kernel_rfl) (by decide) (by assumption) ?_; (intro oi hoi; simp only [List.getElem?_toArray, List.getElem?_cons_succ, List.getElem?_cons_zero] at hoi; obtain rfl := Option.some.inj hoi; clear hoi); refine ⟨rfl, ?_⟩; apply Exists.intro; refine ⟨?_, fun _ _ _ h => h, ?_⟩; (intro w hSw; (try dsimp only at hSw); go_simp; (try with_reducible rfl)); (try simp only [Act.put, List.setIfInBounds_toArray, List.set_cons_zero, List.set_cons_succ]); refine hTake 7 (by kernel_rfl) (by kernel_rfl) (by kernel_rfl) (by decide) (by assumption) ?_; (intro oi hoi; simp only [List.getElem?_toArray, List.getElem?_cons_succ, List.getElem?_cons_zero] at hoi; obtain rfl := Option.some.inj hoi; clear hoi); refine ⟨rfl, ?_⟩; apply Exists.intro; refine ⟨?_, fun _ _ _ h => h, ?_⟩; (intro w hSw; (try dsimp only at hSw); go_simp; (try with_reducible rfl)); (try simp only [Act.put, List.setIfInBounds_toArray, List.set_cons_zero, List.set_cons_succ])
        refine hTake 8 (by kernel_rfl) (by kernel_rfl) (by kernel_rfl) (by decide) (by assumption) ?_; (intro oi hoi; simp only [List.getElem?_toArray, List.getElem?_cons_succ, List.getElem?_cons_zero] at hoi; obtain rfl := Option.some.inj hoi; clear hoi); refine ⟨rfl, ?_⟩; apply Exists.intro; refine ⟨?_, fun _ _ _ h => h, ?_⟩; (intro w hSw; (try dsimp only at hSw); go_simp; (try with_reducible rfl)); (try simp only [Act.put, List.setIfInBounds_toArray, List.set_cons_zero, List.set_cons_succ])
        refine wpAnyH_ready (rs := [0, 5]) (by kernel_rfl) (by simp) ?_
        refine hCons 0 (by decide) ?_ (hCons 5 (by decide) ?_ AllReadyH.nil)
        · (intro oi hoi; simp only [List.getElem?_toArray, List.getElem?_cons_zero] at hoi; obtain rfl := Option.some.inj hoi; clear hoi); intro K hK
          go_simp
          (refine hK.out _ _ (by (first | assumption | exact Env.step (by assumption) (by assumption) | exact Env.old (by assumption) _ | exact Env.drew hE | exact hE | exact Env.drew (by assumption) | exact Env.drew (Env.old (by assumption) _) | ((repeat first | refine Env.far0 ?_ (by assumption) _ | refine Env.far1 ?_ (by assumption) _ | refine Env.farA ?_ (by assumption) _); assumption))) (fun hHeld => ?_); clear hK K; (try simp only [Act.put, List.setIfInBounds_toArray, List.set_cons_zero, List.set_cons_succ]))
          refine wpAnyH_ready (rs := [4, 5]) (by kernel_rfl) (by simp) ?_
          refine hCons 4 (by decide) ?_ (hCons 5 (by decide) ?_ AllReadyH.nil)
          · (intro oi hoi; simp only [List.getElem?_toArray, List.getElem?_cons_succ, List.getElem?_cons_zero] at hoi; obtain rfl := Option.some.inj hoi; clear hoi); intro K hK
            refine step_append_l2 rfl (.tmp 23) (.tmp 26) 27 rfl w.heap.size 43 i0 (.agg #[.int .i64 0, .int .i64 0, .int .i64 0, .int .i64 0, .int .i64 0, .int .i64 0, .int .i64 0, .int .i64 0, .int .i64 0, .int .i64 0, .int .i64 0]) 11 88 Try.underlying27 hi0 hz0 hz1 hz2 rfl (by decide) enenc enenc_len (.slice (some ⟨w.heap.size, 0, none⟩) 0 0) [] (l.take k) rfl (own_empty (heap_alloc_new w (.cells #[] 43)) (Nat.le_refl _)) _ (k) (_) rfl (by simp [HLN.out]; try omega) (fun j u hj => F1.out _ (by assumption) j u hj) (enenc_one _) (by unfold maxLen; simp; omega) (by first | omega | (simp <;> omega)) (by simp) ?_
            intro v1 w1 hown1 hgrow1 hbel1 hfs1
            rw [List.nil_append] at hown1
            have hE1 := Env.kept hE (by assumption) hbel1
            refine hK.out _ _ hE1 (fun hHeld1 => ?_)
            clear hK K
            (try simp only [Act.put, List.setIfInBounds_toArray, List.set_cons_zero, List.set_cons_succ])
            have hs1 := hbel1.size
            rw [World.size_alloc] at hs1
            have hs1' : w.heap.size ≤ w1.heap.size := Nat.le_trans (Nat.le_succ _) hs1
            refine wpAnyH_ready (rs := [5]) (by kernel_rfl) (by simp) ?_
            refine hCons 5 (by decide) ?_ AllReadyH.nil
            (intro oi hoi; simp only [List.getElem?_toArray, List.getElem?_cons_succ, List.getElem?_cons_zero] at hoi; obtain rfl := Option.some.inj hoi; clear hoi); intro K hK
            go_simp
            (refine hK.out _ _ (by (first | assumption | exact Env.step (by assumption) (by assumption) | exact Env.old (by assumption) _ | exact Env.drew hE | exact hE | exact Env.drew (by assumption) | exact Env.drew (Env.old (by assumption) _) | ((repeat first | refine Env.far0 ?_ (by assumption) _ | refine Env.far1 ?_ (by assumption) _ | refine Env.farA ?_ (by assumption) _); assumption))) (fun hHeld => ?_); clear hK K; (try simp only [Act.put, List.setIfInBounds_toArray, List.set_cons_zero, List.set_cons_succ]))
            refine wpAnyH_ready (rs := [9]) (by kernel_rfl) (by simp) ?_
            refine hCons 9 (by decide) ?_ AllReadyH.nil
            (intro oi hoi; simp only [List.getElem?_toArray, List.getElem?_cons_succ, List.getElem?_cons_zero] at hoi; obtain rfl := Option.some.inj hoi; clear hoi); intro K hK
            refine step_append_l2 rfl (.tmp 28) (.tmp 31) 27 rfl w.heap.size 43 i0 (.agg #[.int .i64 0, .int .i64 0, .int .i64 0, .int .i64 0, .int .i64 0, .int .i64 0, .int .i64 0, .int .i64 0, .int .i64 0, .int .i64 0, .int .i64 0]) 11 88 Try.underlying27 hi0 hz0 hz1 hz2 rfl (by decide) enenc enenc_len (.slice (some ⟨w1.heap.size, 0, none⟩) 0 0) [] (l.drop k) rfl (own_empty (heap_alloc_new w1 (.cells #[] 43)) hs1') _ (n - k) (_) rfl (by simp [HLN.out]; try omega) (fun j u hj => F2.out _ (by assumption) j u hj) (enenc_one _) (by unfold maxLen; simp; omega) (by first | omega | (simp <;> omega)) (by simp; omega) ?_
            intro v2 w2 hown2 hgrow2 hbel2 hfs2
            rw [List.nil_append] at hown2
            have hE2 := Env.kept hE (by assumption) hbel2
            refine hK.out _ _ hE2 (fun hHeld2 => ?_)
            clear hK K
            (try simp only [Act.put, List.setIfInBounds_toArray, List.set_cons_zero, List.set_cons_succ])
            refine hTake 10 (by kernel_rfl) (by kernel_rfl) (by kernel_rfl) (by decide) (by assumption) ?_; (intro oi hoi; simp only [List.getElem?_toArray, List.getElem?_cons_succ, List.getElem?_cons_zero] at hoi; obtain rfl := Option.some.inj hoi; clear hoi); refine ⟨rfl, ?_⟩; apply Exists.intro; refine ⟨?_, fun _ _ _ h => h, ?_⟩; (intro w hSw; (try dsimp only at hSw); go_simp; (try with_reducible rfl)); (try simp only [Act.put, List.setIfInBounds_toArray, List.set_cons_zero, List.set_cons_succ])
            refine hTake 11 (by kernel_rfl) (by kernel_rfl) (by kernel_rfl) (by decide) (by assumption) ?_; (intro oi hoi; simp only [List.getElem?_toArray, List.getElem?_cons_succ, List.getElem?_cons_zero] at hoi; obtain rfl := Option.some.inj hoi; clear hoi); refine ⟨rfl, ?_⟩; apply Exists.intro; refine ⟨?_, fun _ _ _ h => h, ?_⟩; (intro w hSw; (try dsimp only at hSw); go_simp; (try with_reducible rfl)); (try simp only [Act.put, List.setIfInBounds_toArray, List.set_cons_zero, List.set_cons_succ])
            refine wpAnyH_done (by kernel_rfl) ?_ _
            go_wp2_with fail
            go_ret2
            have hkp : partN l mark = k := HST.out.symm
            have hne : v1.ownBlock = none ∨ v1.ownBlock ≠ some w1.heap.size := by
              cases hvb : v1.ownBlock with
              | none => exact .inl rfl
              | some g =>
                refine .inr (fun e => ?_)
                have e2 := Option.some.inj e
                have := (World.ownsRow.lt hown1 g hvb).2; omega

            exact ⟨v1, v2, rfl, by rw [hkp]; exact Own.grown (hown1.alloc (.cells #[] 43)) hgrow2 hne, by rw [hkp]; exact hown2, by first | exact hE2.1 | exact hE2.below⟩
          · (intro oi hoi; simp only [List.getElem?_toArray, List.getElem?_cons_succ, List.getElem?_cons_zero] at hoi; obtain rfl := Option.some.inj hoi; clear hoi); intro K hK
            go_simp
            (refine hK.out _ _ (by (first | assumption | exact Env.step (by assumption) (by assumption) | exact Env.old (by assumption) _ | exact Env.drew hE | exact hE | exact Env.drew (by assumption) | exact Env.drew (Env.old (by assumption) _) | ((repeat first | refine Env.far0 ?_ (by assumption) _ | refine Env.far1 ?_ (by assumption) _ | refine Env.farA ?_ (by assumption) _); assumption))) (fun hHeld => ?_); clear hK K; (try simp only [Act.put, List.setIfInBounds_toArray, List.set_cons_zero, List.set_cons_succ]))
            refine wpAnyH_ready (rs := [4]) (by kernel_rfl) (by simp) ?_
            refine hCons 4 (by decide) ?_ AllReadyH.nil
            (intro oi hoi; simp only [List.getElem?_toArray, List.getElem?_cons_succ, List.getElem?_cons_zero] at hoi; obtain rfl := Option.some.inj hoi; clear hoi); intro K hK
            refine step_append_l2 rfl (.tmp 23) (.tmp 26) 27 rfl w.heap.size 43 i0 (.agg #[.int .i64 0, .int .i64 0, .int .i64 0, .int .i64 0, .int .i64 0, .int .i64 0, .int .i64 0, .int .i64 0, .int .i64 0, .int .i64 0, .int .i64 0]) 11 88 Try.underlying27 hi0 hz0 hz1 hz2 rfl (by decide) enenc enenc_len (.slice (some ⟨w.heap.size, 0, none⟩) 0 0) [] (l.take k) rfl (((own_empty (heap_alloc_new (w.drewN (m + 1)) (.cells #[] 43)) (Nat.le_refl _)).alloc (.cells #[] 43))) _ (k) (_) rfl (by simp [HLN.out]; try omega) (fun j u hj => F1.out _ (by assumption) j u hj) (enenc_one _) (by unfold maxLen; simp; omega) (by first | omega | (simp <;> omega)) (by simp; try omega) ?_
            intro v1 w1 hown1 hgrow1 hbel1 hfs1
            rw [List.nil_append] at hown1
            have hE1 := Env.kept hE (by assumption) hbel1
            refine hK.out _ _ hE1 (fun hHeld1 => ?_)
            clear hK K
            (try simp only [Act.put, List.setIfInBounds_toArray, List.set_cons_zero, List.set_cons_succ])
            have hs1 := hbel1.size
            rw [World.size_alloc, World.size_alloc] at hs1
            have hs1' : w.heap.size + 1 + 1 ≤ w1.heap.size := hs1
            refine wpAnyH_ready (rs := [9]) (by kernel_rfl) (by simp) ?_
            refine hCons 9 (by decide) ?_ AllReadyH.nil
            (intro oi hoi; simp only [List.getElem?_toArray, List.getElem?_cons_succ, List.getElem?_cons_zero] at hoi; obtain rfl := Option.some.inj hoi; clear hoi); intro K hK
            refine step_append_l2 rfl (.tmp 28) (.tmp 31) 27 rfl w.heap.size 43 i0 (.agg #[.int .i64 0, .int .i64 0, .int .i64 0, .int .i64 0, .int .i64 0, .int .i64 0, .int .i64 0, .int .i64 0, .int .i64 0, .int .i64 0, .int .i64 0]) 11 88 Try.underlying27 hi0 hz0 hz1 hz2 rfl (by decide) enenc enenc_len (.slice (some ⟨w.heap.size + 1, 0, none⟩) 0 0) [] (l.drop k) rfl ((Own.grown (own_empty1 (w.drewN (m + 1))) hgrow1 (.inr (fun e => by have e3 := Option.some.inj e; simp at e3)))) _ (n - k) (_) rfl (by simp [HLN.out]; try omega) (fun j u hj => F2.out _ (by assumption) j u hj) (enenc_one _) (by unfold maxLen; simp; omega) (by first | omega | (simp <;> omega)) (by exact Nat.le_trans (by omega) hs1') ?_
            intro v2 w2 hown2 hgrow2 hbel2 hfs2
            rw [List.nil_append] at hown2
            have hE2 := Env.kept hE (by assumption) hbel2
            refine hK.out _ _ hE2 (fun hHeld2 => ?_)
            clear hK K
            (try simp only [Act.put, List.setIfInBounds_toArray, List.set_cons_zero, List.set_cons_succ])
            refine hTake 10 (by kernel_rfl) (by kernel_rfl) (by kernel_rfl) (by decide) (by assumption) ?_; (intro oi hoi; simp only [List.getElem?_toArray, List.getElem?_cons_succ, List.getElem?_cons_zero] at hoi; obtain rfl := Option.some.inj hoi; clear hoi); refine ⟨rfl, ?_⟩; apply Exists.intro; refine ⟨?_, fun _ _ _ h => h, ?_⟩; (intro w hSw; (try dsimp only at hSw); go_simp; (try with_reducible rfl)); (try simp only [Act.put, List.setIfInBounds_toArray, List.set_cons_zero, List.set_cons_succ])
            refine hTake 11 (by kernel_rfl) (by kernel_rfl) (by kernel_rfl) (by decide) (by assumption) ?_; (intro oi hoi; simp only [List.getElem?_toArray, List.getElem?_cons_succ, List.getElem?_cons_zero] at hoi; obtain rfl := Option.some.inj hoi; clear hoi); refine ⟨rfl, ?_⟩; apply Exists.intro; refine ⟨?_, fun _ _ _ h => h, ?_⟩; (intro w hSw; (try dsimp only at hSw); go_simp; (try with_reducible rfl)); (try simp only [Act.put, List.setIfInBounds_toArray, List.set_cons_zero, List.set_cons_succ])
            refine wpAnyH_done (by kernel_rfl) ?_ _
            go_wp2_with fail
            go_ret2
            have hkp : partN l mark = k := HST.out.symm
            have hne : v1.ownBlock = none ∨ v1.ownBlock ≠ some (w.heap.size + 1) := by
              cases hvb : v1.ownBlock with
              | none => exact .inl rfl
              | some g =>
                refine .inr (fun e => ?_)
                have e2 := Option.some.inj e
                rcases hfs1 with h | h
                · rw [hvb] at h; have e3 : g = w.heap.size := Option.some.inj h; omega
                · have h3 := h g hvb; rw [World.size_alloc, World.size_alloc] at h3; have h4 : w.heap.size + 1 + 1 ≤ g := h3; omega

            exact ⟨v1, v2, rfl, by rw [hkp]; exact Own.grown hown1 hgrow2 hne, by rw [hkp]; exact hown2, by first | exact hE2.1 | exact hE2.below⟩
        · (intro oi hoi; simp only [List.getElem?_toArray, List.getElem?_cons_succ, List.getElem?_cons_zero] at hoi; obtain rfl := Option.some.inj hoi; clear hoi); intro K hK
          go_simp
          (refine hK.out _ _ (by (first | assumption | exact Env.step (by assumption) (by assumption) | exact Env.old (by assumption) _ | exact Env.drew hE | exact hE | exact Env.drew (by assumption) | exact Env.drew (Env.old (by assumption) _) | ((repeat first | refine Env.far0 ?_ (by assumption) _ | refine Env.far1 ?_ (by assumption) _ | refine Env.farA ?_ (by assumption) _); assumption))) (fun hHeld => ?_); clear hK K; (try simp only [Act.put, List.setIfInBounds_toArray, List.set_cons_zero, List.set_cons_succ]))
          refine wpAnyH_ready (rs := [0]) (by kernel_rfl) (by simp) ?_
          refine hCons 0 (by decide) ?_ AllReadyH.nil
          (intro oi hoi; simp only [List.getElem?_toArray, List.getElem?_cons_zero] at hoi; obtain rfl := Option.some.inj hoi; clear hoi); intro K hK
          go_simp
          (refine hK.out _ _ (by (first | assumption | exact Env.step (by assumption) (by assumption) | exact Env.old (by assumption) _ | exact Env.drew hE | exact hE | exact Env.drew (by assumption) | exact Env.drew (Env.old (by assumption) _) | ((repeat first | refine Env.far0 ?_ (by assumption) _ | refine Env.far1 ?_ (by assumption) _ | refine Env.farA ?_ (by assumption) _); assumption))) (fun hHeld => ?_); clear hK K; (try simp only [Act.put, List.setIfInBounds_toArray, List.set_cons_zero, List.set_cons_succ]))
          refine wpAnyH_ready (rs := [4]) (by kernel_rfl) (by simp) ?_
          refine hCons 4 (by decide) ?_ AllReadyH.nil
          (intro oi hoi; simp only [List.getElem?_toArray, List.getElem?_cons_succ, List.getElem?_cons_zero] at hoi; obtain rfl := Option.some.inj hoi; clear hoi); intro K hK
          refine step_append_l2 rfl (.tmp 23) (.tmp 26) 27 rfl w.heap.size 43 i0 (.agg #[.int .i64 0, .int .i64 0, .int .i64 0, .int .i64 0, .int .i64 0, .int .i64 0, .int .i64 0, .int .i64 0, .int .i64 0, .int .i64 0, .int .i64 0]) 11 88 Try.underlying27 hi0 hz0 hz1 hz2 rfl (by decide) enenc enenc_len (.slice (some ⟨w.heap.size + 1, 0, none⟩) 0 0) [] (l.take k) rfl ((own_empty1 (w.drewN (m + 1)))) _ (k) (_) rfl (by simp [HLN.out]; try omega) (fun j u hj => F1.out _ (by assumption) j u hj) (enenc_one _) (by unfold maxLen; simp; omega) (by first | omega | (simp <;> omega)) (by simp; try omega) ?_
          intro v1 w1 hown1 hgrow1 hbel1 hfs1
          rw [List.nil_append] at hown1
          have hE1 := Env.kept hE (by assumption) hbel1
          refine hK.out _ _ hE1 (fun hHeld1 => ?_)
          clear hK K
          (try simp only [Act.put, List.setIfInBounds_toArray, List.set_cons_zero, List.set_cons_succ])
          have hs1 := hbel1.size
          rw [World.size_alloc, World.size_alloc] at hs1
          have hs1' : w.heap.size + 1 + 1 ≤ w1.heap.size := hs1
          refine wpAnyH_ready (rs := [9]) (by kernel_rfl) (by simp) ?_
          refine hCons 9 (by decide) ?_ AllReadyH.nil
          (intro oi hoi; simp only [List.getElem?_toArray, List.getElem?_cons_succ, List.getElem?_cons_zero] at hoi; obtain rfl := Option.some.inj hoi; clear hoi); intro K hK
          refine step_append_l2 rfl (.tmp 28) (.tmp 31) 27 rfl w.heap.size 43 i0 (.agg #[.int .i64 0, .int .i64 0, .int .i64 0, .int .i64 0, .int .i64 0, .int .i64 0, .int .i64 0, .int .i64 0, .int .i64 0, .int .i64 0, .int .i64 0]) 11 88 Try.underlying27 hi0 hz0 hz1 hz2 rfl (by decide) enenc enenc_len (.slice (some ⟨w.heap.size, 0, none⟩) 0 0) [] (l.drop k) rfl ((Own.grown ((own_empty (heap_alloc_new (w.drewN (m + 1)) (.cells #[] 43)) (Nat.le_refl _)).alloc (.cells #[] 43)) hgrow1 (.inr (fun e => by have e3 := Option.some.inj e; simp at e3)))) _ (n - k) (_) rfl (by simp [HLN.out]; try omega) (fun j u hj => F2.out _ (by assumption) j u hj) (enenc_one _) (by unfold maxLen; simp; omega) (by first | omega | (simp <;> omega)) (by exact Nat.le_trans (by omega) hs1') ?_
          intro v2 w2 hown2 hgrow2 hbel2 hfs2
          rw [List.nil_append] at hown2
          have hE2 := Env.kept hE (by assumption) hbel2
          refine hK.out _ _ hE2 (fun hHeld2 => ?_)
          clear hK K
          (try simp only [Act.put, List.setIfInBounds_toArray, List.set_cons_zero, List.set_cons_succ])
          refine hTake 10 (by kernel_rfl) (by kernel_rfl) (by kernel_rfl) (by decide) (by assumption) ?_; (intro oi hoi; simp only [List.getElem?_toArray, List.getElem?_cons_succ, List.getElem?_cons_zero] at hoi; obtain rfl := Option.some.inj hoi; clear hoi); refine ⟨rfl, ?_⟩; apply Exists.intro; refine ⟨?_, fun _ _ _ h => h, ?_⟩; (intro w hSw; (try dsimp only at hSw); go_simp; (try with_reducible rfl)); (try simp only [Act.put, List.setIfInBounds_toArray, List.set_cons_zero, List.set_cons_succ])
          refine hTake 11 (by kernel_rfl) (by kernel_rfl) (by kernel_rfl) (by decide) (by assumption) ?_; (intro oi hoi; simp only [List.getElem?_toArray, List.getElem?_cons_succ, List.getElem?_cons_zero] at hoi; obtain rfl := Option.some.inj hoi; clear hoi); refine ⟨rfl, ?_⟩; apply Exists.intro; refine ⟨?_, fun _ _ _ h => h, ?_⟩; (intro w hSw; (try dsimp only at hSw); go_simp; (try with_reducible rfl)); (try simp only [Act.put, List.setIfInBounds_toArray, List.set_cons_zero, List.set_cons_succ])
          refine wpAnyH_done (by kernel_rfl) ?_ _
          go_wp2_with fail
          go_ret2
          have hkp : partN l mark = k := HST.out.symm
          have hne : v1.ownBlock = none ∨ v1.ownBlock ≠ some w.heap.size := by
            cases hvb : v1.ownBlock with
            | none => exact .inl rfl
            | some g =>
              refine .inr (fun e => ?_)
              have e2 := Option.some.inj e
              rcases hfs1 with h | h
              · rw [hvb] at h; have e3 : g = w.heap.size + 1 := Option.some.inj h; omega
              · have h3 := h g hvb; rw [World.size_alloc, World.size_alloc] at h3; have h4 : w.heap.size + 1 + 1 ≤ g := h3; omega

          exact ⟨v1, v2, rfl, by rw [hkp]; exact Own.grown hown1 hgrow2 hne, by rw [hkp]; exact hown2, by first | exact hE2.1 | exact hE2.below⟩
end Go.Proofs.Ytbbdepeifdbbdaa
