/- The contract of chapter 17's examples: they hold. No condition. -/
import Derived.Test.YtbbdepeifdbbdaaStoreLaw
import Derived.Test.YtbbdepeifdbbdaaStoreFire
import Derived.Test.YtbbdepeifdbbdaaEnSame
namespace Go.Proofs.Ytbbdepeifdbbdaa
open Go.RowKit

theorem addE_lit {l l' : List En} {wk ws we rk rt rv side : Int} (h1 : l.length ≤ 4000 ∧ (∀ x ∈ l, enok x = true) ∧ SS l) (h2 : wok wk ws we) (h3 : side = 0 ∨ side = 1) (h4 : -1099511627776 ≤ rt ∧ rt ≤ 1099511627776)
    (h5 : givE l wk ws we rk rt rv side = (l', true)) : addE l wk ws we rk rt rv side = (l', 0) := by
  unfold addE
  rw [if_neg (by simp [enchk_zero.2 h1]), if_neg (by simp [h2]), if_neg (by omega), if_neg (by omega), h5, if_pos rfl]
def al0 : List Pt := [⟨1, 3, 5, 0⟩, ⟨1, 12, 7, 0⟩, ⟨1, 9, 2, 0⟩]
def al1 : List Pt := [⟨1, 3, 0, 0⟩, ⟨1, 9, 0, 0⟩]
def al2 : List Pt := [⟨1, 3, 0, 0⟩, ⟨1, 9, 0, 0⟩, ⟨1, 6, 0, 0⟩]
def am0 : List En := [⟨1, 0, 10, 2, 7, 2, 5, 0, 0, 0, 0⟩, ⟨1, 10, 20, 1, 7, 7, 7, 0, 0, 0, 0⟩]
def am1 : List En := [⟨1, 3, 8, 1, 0, 0, 0, 0, 0, 0, 0⟩, ⟨1, 9, 14, 1, 0, 0, 0, 0, 0, 0, 0⟩]
def am2 : List En := [⟨1, 3, 14, 3, 0, 0, 0, 0, 0, 0, 0⟩]
theorem val_nil : ([] : List En).length ≤ 4000 ∧ (∀ x ∈ ([] : List En), enok x = true) ∧ SS [] := ⟨by simp, by simp, List.Pairwise.nil⟩
theorem allE_cons {wk ws we : Int} {a b : List En} {p : Pt} {P : List Pt} (h : addE a wk ws we p.k p.t p.v p.d = (b, 0)) : allE wk ws we a (p :: P) = allE wk ws we b P := by
  have e : allE wk ws we a (p :: P) = if (addE a wk ws we p.k p.t p.v p.d).2 = 0 then allE wk ws we (addE a wk ws we p.k p.t p.v p.d).1 P else none := rfl
  rw [e, h, if_pos rfl]
theorem alive_0 : allE 1 10 0 [] al0 = some am0 := by
  unfold al0
  rw [allE_cons (b := [⟨1, 0, 10, 1, 5, 5, 5, 0, 0, 0, 0⟩]) (addE_lit val_nil (by unfold wok; decide) (.inl rfl) (by decide) (by decide +kernel)),
    allE_cons (b := [⟨1, 0, 10, 1, 5, 5, 5, 0, 0, 0, 0⟩, ⟨1, 10, 20, 1, 7, 7, 7, 0, 0, 0, 0⟩]) (addE_lit ⟨by decide, by decide, by simp [SS]⟩ (by unfold wok; decide) (.inl rfl) (by decide) (by decide +kernel)),
    allE_cons (b := am0) (addE_lit ⟨by decide, by decide, by simp [SS, enlt]⟩ (by unfold wok; decide) (.inl rfl) (by decide) (by decide +kernel))]
  rfl
theorem alive_1 : allE 3 5 0 [] al1 = some am1 := by
  unfold al1
  rw [allE_cons (b := [⟨1, 3, 8, 1, 0, 0, 0, 0, 0, 0, 0⟩]) (addE_lit val_nil (by unfold wok; decide) (.inl rfl) (by decide) (by decide +kernel)),
    allE_cons (b := am1) (addE_lit ⟨by decide, by decide, by simp [SS]⟩ (by unfold wok; decide) (.inl rfl) (by decide) (by decide +kernel))]
  rfl
theorem alive_2 : allE 3 5 0 [] al2 = some am2 := by
  unfold al2
  rw [allE_cons (b := [⟨1, 3, 8, 1, 0, 0, 0, 0, 0, 0, 0⟩]) (addE_lit val_nil (by unfold wok; decide) (.inl rfl) (by decide) (by decide +kernel)),
    allE_cons (b := am1) (addE_lit ⟨by decide, by decide, by simp [SS]⟩ (by unfold wok; decide) (.inl rfl) (by decide) (by decide +kernel)),
    allE_cons (b := am2) (addE_lit ⟨by decide, by decide, by simp [SS, enlt, am1]⟩ (by unfold wok; decide) (.inl rfl) (by decide) (by decide +kernel))]
  rfl
theorem alive_f : fireE am0 10 = ([⟨1, 0, 10, 2, 7, 2, 5, 0, 0, 0, 0⟩], [⟨1, 10, 20, 1, 7, 7, 7, 0, 0, 0, 0⟩], 0) := by
  unfold fireE
  rw [if_neg (by simp [enchk_zero.2 (show am0.length ≤ 4000 ∧ (∀ x ∈ am0, enok x = true) ∧ SS am0 from ⟨by decide, by decide, by simp [SS, enlt, am0]⟩)])]
  rfl
theorem all_lit {P : List Pt} {wk ws we : Int} {a : List En} (hall : allE wk ws we [] P = some a) (hwe : (Lit.int .i64 we).wf = true) (A : Option Addr) (c n m : Nat) (W : World) (hn : P.length = n) (hm : a.length = m) (hs : n ≤ 1099511627776) (hr : Rd penc 4 W W.heap.size A P) :
    Calls Try.prog 47 #[.agg #[.int .u8 wk, .int .i64 ws, .int .i64 we], .slice A n c] W fun r w' => ∃ A' c', r = .returned (.tuple #[.slice A' m c', .bool true]) ∧ m ≤ c' ∧ (A' = none → c' = 0) ∧ Rd enenc 11 w' w'.heap.size A' a ∧ Below W.heap.size W w' := by
  refine (all_any A c n P wk ws we hwe W hn hs hr).mono ?_
  rintro r w' ⟨v, rfl, own, hb⟩
  rw [hall] at own ⊢
  obtain ⟨A', c', rfl, h1, h2⟩ := own_shape_z own hm
  exact ⟨A', c', rfl, h1, h2, Own.rd enenc_len own, hb⟩
theorem rd_take {α : Type} {enc : α → List Value} {sz : Nat} {w : World} {B : Nat} {A : Option Addr} {l : List α} (h : Rd enc sz w B A l) (k : Nat) : Rd enc sz w B A (l.take k) := fun hn => by
  obtain ⟨b, off, e, hb, hc⟩ := h (by rintro rfl; simp at hn)
  refine ⟨b, off, e, hb, fun j x hx => hc j x ?_⟩
  rw [List.getElem?_take] at hx
  split at hx
  · exact hx
  · cases hx
theorem rd_drop {α : Type} {enc : α → List Value} {sz : Nat} {w : World} {B b off : Nat} {l : List α} (h : Rd enc sz w B (some ⟨b, off, none⟩) l) (k : Nat) : Rd enc sz w B (some ⟨b, off + k * sz, none⟩) (l.drop k) := fun hn => by
  obtain ⟨b', off', e, hb, hc⟩ := h (by rintro rfl; simp at hn)
  simp only [Option.some.injEq, Addr.mk.injEq, and_true] at e
  obtain ⟨rfl, rfl⟩ := e
  refine ⟨b, off + k * sz, rfl, hb, fun j x hx i u hu => ?_⟩
  rw [List.getElem?_drop] at hx
  have := hc (k + j) x hx i u hu
  rw [Nat.add_mul] at this
  rw [show off + k * sz + j * sz + i = off + (k * sz + j * sz) + i by omega]
  exact this
theorem rd_pts (w : World) (P : List Pt) (e : TypeId) : Rd penc 4 (w.alloc (.cells (P.flatMap penc).toArray e)) (w.heap.size + 1) (some ⟨w.heap.size, 0, none⟩) P := by
  intro _
  refine ⟨w.heap.size, 0, rfl, by omega, fun k x hx j u hu => ?_⟩
  rw [World.cell?_alloc_at _ _ _ _ rfl]
  have := flat_at penc_len P k j x u hx hu
  simpa using this
set_option maxHeartbeats 16000000 in
set_option maxRecDepth 100000 in
theorem alive17 (w : World) : Calls Try.prog 45 #[] w fun e w' => e = .returned (.bool true) ∧ Below w.heap.size w w' := by
  have hL : Loc w [] := trivial
  go_enter Try.func45, Try.ntmps45
  go_wp2_with fail
  go_at_call 78
  refine (of17_any _ _ _).mono ?_
  rintro e w1 ⟨rfl, hb1⟩
  go_wp2_with fail
  go_at_call 78
  refine (of17_any _ _ _).mono ?_
  rintro e w2 ⟨rfl, hb2⟩
  go_wp2_with fail
  go_at_call 78
  refine (of17_any _ _ _).mono ?_
  rintro e w3 ⟨rfl, hb3⟩
  go_wp2_with fail
  go_at_call 47
  refine (all_lit alive_0 (by decide) _ _ 3 2 _ rfl rfl (by omega) ((rd_pts w3 al0 87).more (by simp))).mono ?_
  rintro r w4 ⟨A0, c0, rfl, m0, z0, r0, hb4⟩
  go_wp2_with fail
  have hl5 : Loc (w4.alloc (.cells #[.int .u8 3, .int .i64 5, .int .i64 0] 23)) [(w4.heap.size, [.int .u8 3, .int .i64 5, .int .i64 0])] := (Loc.nil w4).new [.int .u8 3, .int .i64 5, .int .i64 0] 23
  have hb5 : Below w.heap.size w (w4.alloc (.cells #[.int .u8 3, .int .i64 5, .int .i64 0] 23)) := (by repeat (first | with_reducible exact Below.refl _ _ | with_reducible assumption | (with_reducible exact Env.below (by assumption)) | (with_reducible refine below_new ?_ _) | (with_reducible refine below_drew ?_) | (with_reducible refine below_drewN ?_ _) | (with_reducible refine below_put ?_ ?_ _; rotate_left 1; (dsimp only; omega)) | (with_reducible refine below_then ?_ (by assumption))))
  have rd0 : Rd enenc 11 (w4.alloc (.cells #[.int .u8 3, .int .i64 5, .int .i64 0] 23)) (w4.alloc (.cells #[.int .u8 3, .int .i64 5, .int .i64 0] 23)).heap.size A0 am0 := rd_grown r0 (by repeat (first | with_reducible exact Below.refl _ _ | with_reducible assumption | (with_reducible exact Env.below (by assumption)) | (with_reducible refine below_new ?_ _) | (with_reducible refine below_drew ?_) | (with_reducible refine below_drewN ?_ _) | (with_reducible refine below_put ?_ ?_ _; rotate_left 1; (dsimp only; omega)) | (with_reducible refine below_then ?_ (by assumption))))
  obtain ⟨W5, hW5⟩ : ∃ W5, W5 = w4.alloc (.cells #[.int .u8 3, .int .i64 5, .int .i64 0] 23) := ⟨_, rfl⟩
  rw [← hW5] at hl5 hb5 rd0 ⊢
  obtain ⟨g3, hg3⟩ : ∃ g3, g3 = w4.heap.size := ⟨_, rfl⟩
  rw [← hg3] at hl5 ⊢
  clear hb1 hb2 hb3 hb4 r0 hW5 hg3 w4 hL
  obtain ⟨lE, hE, hR⟩ := Env.abs (w0 := W5) (Below.refl _ _) hl5
  (repeat unfold Loc at hR)
  refine wp_region_held_drew (S := Env W5 lE) (by kernel_rfl) (by (first | assumption | exact Env.step (by assumption) (by assumption) | exact Env.old (by assumption) _ | exact Env.drew hE | exact hE | exact Env.drew (by assumption) | exact Env.drew (Env.old (by assumption) _) | ((repeat first | refine Env.far0 ?_ (by assumption) _ | refine Env.far1 ?_ (by assumption) _ | refine Env.farA ?_ (by assumption) _); assumption))) (fun hHeld => ?_)
  refine hTake 0 (by kernel_rfl) (by kernel_rfl) (by kernel_rfl) (by decide) (by assumption) ?_; (intro oi hoi; simp only [List.getElem?_toArray, List.getElem?_cons_zero] at hoi; obtain rfl := Option.some.inj hoi; clear hoi); refine ⟨rfl, ?_⟩; apply Exists.intro; refine ⟨?_, fun _ _ _ h => h, ?_⟩; (intro w hSw; (try dsimp only at hSw); go_simp; (try with_reducible rfl)); (try simp only [Act.put, List.setIfInBounds_toArray, List.set_cons_zero, List.set_cons_succ])
  refine hOnly 1 (by kernel_rfl) (by decide) ?_; (intro oi hoi; simp only [List.getElem?_toArray, List.getElem?_cons_succ, List.getElem?_cons_zero] at hoi; obtain rfl := Option.some.inj hoi; clear hoi); intro K hK; go_simp
  go_at_call 78
  refine (of17_any _ _ _).mono ?_
  rintro r w6 ⟨rfl, hb6⟩
  have hEhb6 := Env.step hb6 (by assumption); (try (have hqhb6 := (by with_reducible first | exact Loc.below hb6 (Loc.new (Loc.nil _) _ _) | exact Loc.below hb6 (Loc.drew (Loc.new (Loc.nil _) _ _)) | exact Loc.below hb6 (by assumption : Loc _ [_])); (repeat rw [World.size_drew] at hqhb6); (repeat rw [World.size_alloc] at hqhb6); have hrhb6 := hqhb6; (repeat unfold Loc at hrhb6)))
  (refine hK.out _ _ (by (first | assumption | exact Env.step (by assumption) (by assumption) | exact Env.old (by assumption) _ | exact Env.drew hE | exact hE | exact Env.drew (by assumption) | exact Env.drew (Env.old (by assumption) _) | ((repeat first | refine Env.far0 ?_ (by assumption) _ | refine Env.far1 ?_ (by assumption) _ | refine Env.farA ?_ (by assumption) _); assumption))) (fun hHeld => ?_); clear hK K; (try simp only [Act.put, List.setIfInBounds_toArray, List.set_cons_zero, List.set_cons_succ]))
  refine hOnly 2 (by kernel_rfl) (by decide) ?_; (intro oi hoi; simp only [List.getElem?_toArray, List.getElem?_cons_succ, List.getElem?_cons_zero] at hoi; obtain rfl := Option.some.inj hoi; clear hoi); intro K hK; go_simp
  go_at_call 78
  refine (of17_any _ _ _).mono ?_
  rintro r w7 ⟨rfl, hb7⟩
  have hEhb7 := Env.step hb7 (by assumption); (try (have hqhb7 := (by with_reducible first | exact Loc.below hb7 (Loc.new (Loc.nil _) _ _) | exact Loc.below hb7 (Loc.drew (Loc.new (Loc.nil _) _ _)) | exact Loc.below hb7 (by assumption : Loc _ [_])); (repeat rw [World.size_drew] at hqhb7); (repeat rw [World.size_alloc] at hqhb7); have hrhb7 := hqhb7; (repeat unfold Loc at hrhb7)))
  (refine hK.out _ _ (by (first | assumption | exact Env.step (by assumption) (by assumption) | exact Env.old (by assumption) _ | exact Env.drew hE | exact hE | exact Env.drew (by assumption) | exact Env.drew (Env.old (by assumption) _) | ((repeat first | refine Env.far0 ?_ (by assumption) _ | refine Env.far1 ?_ (by assumption) _ | refine Env.farA ?_ (by assumption) _); assumption))) (fun hHeld => ?_); clear hK K; (try simp only [Act.put, List.setIfInBounds_toArray, List.set_cons_zero, List.set_cons_succ]))
  refine hOnly 3 (by kernel_rfl) (by decide) ?_; (intro oi hoi; simp only [List.getElem?_toArray, List.getElem?_cons_succ, List.getElem?_cons_zero] at hoi; obtain rfl := Option.some.inj hoi; clear hoi); intro K hK; go_simp
  (refine hK.out _ _ (by (first | assumption | exact Env.step (by assumption) (by assumption) | exact Env.old (by assumption) _ | exact Env.drew hE | exact hE | exact Env.drew (by assumption) | exact Env.drew (Env.old (by assumption) _) | ((repeat first | refine Env.far0 ?_ (by assumption) _ | refine Env.far1 ?_ (by assumption) _ | refine Env.farA ?_ (by assumption) _); assumption))) (fun hHeld => ?_); clear hK K; (try simp only [Act.put, List.setIfInBounds_toArray, List.set_cons_zero, List.set_cons_succ]))
  refine hOnly 4 (by kernel_rfl) (by decide) ?_; (intro oi hoi; simp only [List.getElem?_toArray, List.getElem?_cons_succ, List.getElem?_cons_zero] at hoi; obtain rfl := Option.some.inj hoi; clear hoi); intro K hK; go_simp
  go_at_call 47
  refine (all_lit alive_1 (by decide) _ _ 2 2 _ rfl rfl (by omega) ((rd_pts w7 al1 87).more (by simp))).mono ?_
  rintro r w8 ⟨A1, c1, rfl, m1, z1, r1, hb8⟩
  have hEhb8 := Env.step hb8 (by assumption); (try (have hqhb8 := (by with_reducible first | exact Loc.below hb8 (Loc.new (Loc.nil _) _ _) | exact Loc.below hb8 (Loc.drew (Loc.new (Loc.nil _) _ _)) | exact Loc.below hb8 (by assumption : Loc _ [_])); (repeat rw [World.size_drew] at hqhb8); (repeat rw [World.size_alloc] at hqhb8); have hrhb8 := hqhb8; (repeat unfold Loc at hrhb8)))
  (refine hK.out _ _ (by (first | assumption | exact Env.step (by assumption) (by assumption) | exact Env.old (by assumption) _ | exact Env.drew hE | exact hE | exact Env.drew (by assumption) | exact Env.drew (Env.old (by assumption) _) | ((repeat first | refine Env.far0 ?_ (by assumption) _ | refine Env.far1 ?_ (by assumption) _ | refine Env.farA ?_ (by assumption) _); assumption))) (fun hHeld => ?_); clear hK K; (try simp only [Act.put, List.setIfInBounds_toArray, List.set_cons_zero, List.set_cons_succ]))
  refine hTake 5 (by kernel_rfl) (by kernel_rfl) (by kernel_rfl) (by decide) (by assumption) ?_; (intro oi hoi; simp only [List.getElem?_toArray, List.getElem?_cons_succ, List.getElem?_cons_zero] at hoi; obtain rfl := Option.some.inj hoi; clear hoi); refine ⟨rfl, ?_⟩; apply Exists.intro; refine ⟨?_, fun _ _ _ h => h, ?_⟩; (intro w hSw; (try dsimp only at hSw); go_simp; (try with_reducible rfl)); (try simp only [Act.put, List.setIfInBounds_toArray, List.set_cons_zero, List.set_cons_succ]); refine hTake 6 (by kernel_rfl) (by kernel_rfl) (by kernel_rfl) (by decide) (by assumption) ?_; (intro oi hoi; simp only [List.getElem?_toArray, List.getElem?_cons_succ, List.getElem?_cons_zero] at hoi; obtain rfl := Option.some.inj hoi; clear hoi); refine ⟨rfl, ?_⟩; apply Exists.intro; refine ⟨?_, fun _ _ _ h => h, ?_⟩; (intro w hSw; (try dsimp only at hSw); go_simp; (try with_reducible rfl)); (try simp only [Act.put, List.setIfInBounds_toArray, List.set_cons_zero, List.set_cons_succ]); refine hTake 7 (by kernel_rfl) (by kernel_rfl) (by kernel_rfl) (by decide) (by assumption) ?_; (intro oi hoi; simp only [List.getElem?_toArray, List.getElem?_cons_succ, List.getElem?_cons_zero] at hoi; obtain rfl := Option.some.inj hoi; clear hoi); refine ⟨rfl, ?_⟩; apply Exists.intro; refine ⟨?_, fun _ _ _ h => h, ?_⟩; (intro w hSw; (try dsimp only at hSw); go_simp; (try with_reducible rfl)); (try simp only [Act.put, List.setIfInBounds_toArray, List.set_cons_zero, List.set_cons_succ]); refine hTake 8 (by kernel_rfl) (by kernel_rfl) (by kernel_rfl) (by decide) (by assumption) ?_; (intro oi hoi; simp only [List.getElem?_toArray, List.getElem?_cons_succ, List.getElem?_cons_zero] at hoi; obtain rfl := Option.some.inj hoi; clear hoi); refine ⟨rfl, ?_⟩; apply Exists.intro; refine ⟨?_, fun _ _ _ h => h, ?_⟩; (intro w hSw; (try dsimp only at hSw); go_simp; (try with_reducible rfl)); (try simp only [Act.put, List.setIfInBounds_toArray, List.set_cons_zero, List.set_cons_succ]); refine hTake 9 (by kernel_rfl) (by kernel_rfl) (by kernel_rfl) (by decide) (by assumption) ?_; (intro oi hoi; simp only [List.getElem?_toArray, List.getElem?_cons_succ, List.getElem?_cons_zero] at hoi; obtain rfl := Option.some.inj hoi; clear hoi); refine ⟨rfl, ?_⟩; apply Exists.intro; refine ⟨?_, fun _ _ _ h => h, ?_⟩; (intro w hSw; (try dsimp only at hSw); go_simp; (try with_reducible rfl)); (try simp only [Act.put, List.setIfInBounds_toArray, List.set_cons_zero, List.set_cons_succ])
  refine wpAnyH_done (by kernel_rfl) ?_ _
  have hbx8 : Below W5.heap.size W5 w8 := hHeld.1
  have hE8 : Env W5 lE w8 := hHeld
  clear hb8 hb7 hb6 hE hHeld
  go_wp2_with fail
  refine wp_region_held_drew (S := Env W5 lE) (by kernel_rfl) (by (first | assumption | exact Env.step (by assumption) (by assumption) | exact Env.old (by assumption) _ | exact Env.drew hE | exact hE | exact Env.drew (by assumption) | exact Env.drew (Env.old (by assumption) _) | ((repeat first | refine Env.far0 ?_ (by assumption) _ | refine Env.far1 ?_ (by assumption) _ | refine Env.farA ?_ (by assumption) _); assumption))) (fun hHeld => ?_)
  refine hTake 0 (by kernel_rfl) (by kernel_rfl) (by kernel_rfl) (by decide) (by assumption) ?_; (intro oi hoi; simp only [List.getElem?_toArray, List.getElem?_cons_zero] at hoi; obtain rfl := Option.some.inj hoi; clear hoi); refine ⟨rfl, ?_⟩; apply Exists.intro; refine ⟨?_, fun _ _ _ h => h, ?_⟩; (intro w hSw; (try dsimp only at hSw); go_simp; (try with_reducible rfl)); (try simp only [Act.put, List.setIfInBounds_toArray, List.set_cons_zero, List.set_cons_succ])
  refine hOnly 1 (by kernel_rfl) (by decide) ?_; (intro oi hoi; simp only [List.getElem?_toArray, List.getElem?_cons_succ, List.getElem?_cons_zero] at hoi; obtain rfl := Option.some.inj hoi; clear hoi); intro K hK; go_simp
  go_at_call 78
  refine (of17_any _ _ _).mono ?_
  rintro r v6 ⟨rfl, hb6⟩
  have hEhb6 := Env.step hb6 (by assumption); (try (have hqhb6 := (by with_reducible first | exact Loc.below hb6 (Loc.new (Loc.nil _) _ _) | exact Loc.below hb6 (Loc.drew (Loc.new (Loc.nil _) _ _)) | exact Loc.below hb6 (by assumption : Loc _ [_])); (repeat rw [World.size_drew] at hqhb6); (repeat rw [World.size_alloc] at hqhb6); have hrhb6 := hqhb6; (repeat unfold Loc at hrhb6)))
  (refine hK.out _ _ (by (first | assumption | exact Env.step (by assumption) (by assumption) | exact Env.old (by assumption) _ | exact Env.drew hE | exact hE | exact Env.drew (by assumption) | exact Env.drew (Env.old (by assumption) _) | ((repeat first | refine Env.far0 ?_ (by assumption) _ | refine Env.far1 ?_ (by assumption) _ | refine Env.farA ?_ (by assumption) _); assumption))) (fun hHeld => ?_); clear hK K; (try simp only [Act.put, List.setIfInBounds_toArray, List.set_cons_zero, List.set_cons_succ]))
  refine hOnly 2 (by kernel_rfl) (by decide) ?_; (intro oi hoi; simp only [List.getElem?_toArray, List.getElem?_cons_succ, List.getElem?_cons_zero] at hoi; obtain rfl := Option.some.inj hoi; clear hoi); intro K hK; go_simp
  go_at_call 78
  refine (of17_any _ _ _).mono ?_
  rintro r v7 ⟨rfl, hb7⟩
  have hEhb7 := Env.step hb7 (by assumption); (try (have hqhb7 := (by with_reducible first | exact Loc.below hb7 (Loc.new (Loc.nil _) _ _) | exact Loc.below hb7 (Loc.drew (Loc.new (Loc.nil _) _ _)) | exact Loc.below hb7 (by assumption : Loc _ [_])); (repeat rw [World.size_drew] at hqhb7); (repeat rw [World.size_alloc] at hqhb7); have hrhb7 := hqhb7; (repeat unfold Loc at hrhb7)))
  (refine hK.out _ _ (by (first | assumption | exact Env.step (by assumption) (by assumption) | exact Env.old (by assumption) _ | exact Env.drew hE | exact hE | exact Env.drew (by assumption) | exact Env.drew (Env.old (by assumption) _) | ((repeat first | refine Env.far0 ?_ (by assumption) _ | refine Env.far1 ?_ (by assumption) _ | refine Env.farA ?_ (by assumption) _); assumption))) (fun hHeld => ?_); clear hK K; (try simp only [Act.put, List.setIfInBounds_toArray, List.set_cons_zero, List.set_cons_succ]))
  refine hOnly 3 (by kernel_rfl) (by decide) ?_; (intro oi hoi; simp only [List.getElem?_toArray, List.getElem?_cons_succ, List.getElem?_cons_zero] at hoi; obtain rfl := Option.some.inj hoi; clear hoi); intro K hK; go_simp
  go_at_call 78
  refine (of17_any _ _ _).mono ?_
  rintro r v8 ⟨rfl, hb8⟩
  have hEhb8 := Env.step hb8 (by assumption); (try (have hqhb8 := (by with_reducible first | exact Loc.below hb8 (Loc.new (Loc.nil _) _ _) | exact Loc.below hb8 (Loc.drew (Loc.new (Loc.nil _) _ _)) | exact Loc.below hb8 (by assumption : Loc _ [_])); (repeat rw [World.size_drew] at hqhb8); (repeat rw [World.size_alloc] at hqhb8); have hrhb8 := hqhb8; (repeat unfold Loc at hrhb8)))
  (refine hK.out _ _ (by (first | assumption | exact Env.step (by assumption) (by assumption) | exact Env.old (by assumption) _ | exact Env.drew hE | exact hE | exact Env.drew (by assumption) | exact Env.drew (Env.old (by assumption) _) | ((repeat first | refine Env.far0 ?_ (by assumption) _ | refine Env.far1 ?_ (by assumption) _ | refine Env.farA ?_ (by assumption) _); assumption))) (fun hHeld => ?_); clear hK K; (try simp only [Act.put, List.setIfInBounds_toArray, List.set_cons_zero, List.set_cons_succ]))
  refine hOnly 4 (by kernel_rfl) (by decide) ?_; (intro oi hoi; simp only [List.getElem?_toArray, List.getElem?_cons_succ, List.getElem?_cons_zero] at hoi; obtain rfl := Option.some.inj hoi; clear hoi); intro K hK; go_simp
  (refine hK.out _ _ (by (first | assumption | exact Env.step (by assumption) (by assumption) | exact Env.old (by assumption) _ | exact Env.drew hE | exact hE | exact Env.drew (by assumption) | exact Env.drew (Env.old (by assumption) _) | ((repeat first | refine Env.far0 ?_ (by assumption) _ | refine Env.far1 ?_ (by assumption) _ | refine Env.farA ?_ (by assumption) _); assumption))) (fun hHeld => ?_); clear hK K; (try simp only [Act.put, List.setIfInBounds_toArray, List.set_cons_zero, List.set_cons_succ]))
  refine hOnly 5 (by kernel_rfl) (by decide) ?_; (intro oi hoi; simp only [List.getElem?_toArray, List.getElem?_cons_succ, List.getElem?_cons_zero] at hoi; obtain rfl := Option.some.inj hoi; clear hoi); intro K hK; go_simp
  go_at_call 47
  refine (all_lit alive_2 (by decide) _ _ 3 1 _ rfl rfl (by omega) ((rd_pts v8 al2 87).more (by simp))).mono ?_
  rintro r v9 ⟨A2, c2, rfl, m2, z2, r2, hb9⟩
  have hEhb9 := Env.step hb9 (by assumption); (try (have hqhb9 := (by with_reducible first | exact Loc.below hb9 (Loc.new (Loc.nil _) _ _) | exact Loc.below hb9 (Loc.drew (Loc.new (Loc.nil _) _ _)) | exact Loc.below hb9 (by assumption : Loc _ [_])); (repeat rw [World.size_drew] at hqhb9); (repeat rw [World.size_alloc] at hqhb9); have hrhb9 := hqhb9; (repeat unfold Loc at hrhb9)))
  (refine hK.out _ _ (by (first | assumption | exact Env.step (by assumption) (by assumption) | exact Env.old (by assumption) _ | exact Env.drew hE | exact hE | exact Env.drew (by assumption) | exact Env.drew (Env.old (by assumption) _) | ((repeat first | refine Env.far0 ?_ (by assumption) _ | refine Env.far1 ?_ (by assumption) _ | refine Env.farA ?_ (by assumption) _); assumption))) (fun hHeld => ?_); clear hK K; (try simp only [Act.put, List.setIfInBounds_toArray, List.set_cons_zero, List.set_cons_succ]))
  refine hTake 6 (by kernel_rfl) (by kernel_rfl) (by kernel_rfl) (by decide) (by assumption) ?_; (intro oi hoi; simp only [List.getElem?_toArray, List.getElem?_cons_succ, List.getElem?_cons_zero] at hoi; obtain rfl := Option.some.inj hoi; clear hoi); refine ⟨rfl, ?_⟩; apply Exists.intro; refine ⟨?_, fun _ _ _ h => h, ?_⟩; (intro w hSw; (try dsimp only at hSw); go_simp; (try with_reducible rfl)); (try simp only [Act.put, List.setIfInBounds_toArray, List.set_cons_zero, List.set_cons_succ]); refine hTake 7 (by kernel_rfl) (by kernel_rfl) (by kernel_rfl) (by decide) (by assumption) ?_; (intro oi hoi; simp only [List.getElem?_toArray, List.getElem?_cons_succ, List.getElem?_cons_zero] at hoi; obtain rfl := Option.some.inj hoi; clear hoi); refine ⟨rfl, ?_⟩; apply Exists.intro; refine ⟨?_, fun _ _ _ h => h, ?_⟩; (intro w hSw; (try dsimp only at hSw); go_simp; (try with_reducible rfl)); (try simp only [Act.put, List.setIfInBounds_toArray, List.set_cons_zero, List.set_cons_succ]); refine hTake 8 (by kernel_rfl) (by kernel_rfl) (by kernel_rfl) (by decide) (by assumption) ?_; (intro oi hoi; simp only [List.getElem?_toArray, List.getElem?_cons_succ, List.getElem?_cons_zero] at hoi; obtain rfl := Option.some.inj hoi; clear hoi); refine ⟨rfl, ?_⟩; apply Exists.intro; refine ⟨?_, fun _ _ _ h => h, ?_⟩; (intro w hSw; (try dsimp only at hSw); go_simp; (try with_reducible rfl)); (try simp only [Act.put, List.setIfInBounds_toArray, List.set_cons_zero, List.set_cons_succ]); refine hTake 9 (by kernel_rfl) (by kernel_rfl) (by kernel_rfl) (by decide) (by assumption) ?_; (intro oi hoi; simp only [List.getElem?_toArray, List.getElem?_cons_succ, List.getElem?_cons_zero] at hoi; obtain rfl := Option.some.inj hoi; clear hoi); refine ⟨rfl, ?_⟩; apply Exists.intro; refine ⟨?_, fun _ _ _ h => h, ?_⟩; (intro w hSw; (try dsimp only at hSw); go_simp; (try with_reducible rfl)); (try simp only [Act.put, List.setIfInBounds_toArray, List.set_cons_zero, List.set_cons_succ]); refine hTake 10 (by kernel_rfl) (by kernel_rfl) (by kernel_rfl) (by decide) (by assumption) ?_; (intro oi hoi; simp only [List.getElem?_toArray, List.getElem?_cons_succ, List.getElem?_cons_zero] at hoi; obtain rfl := Option.some.inj hoi; clear hoi); refine ⟨rfl, ?_⟩; apply Exists.intro; refine ⟨?_, fun _ _ _ h => h, ?_⟩; (intro w hSw; (try dsimp only at hSw); go_simp; (try with_reducible rfl)); (try simp only [Act.put, List.setIfInBounds_toArray, List.set_cons_zero, List.set_cons_succ])
  refine wpAnyH_done (by kernel_rfl) ?_ _
  have rdA : Rd enenc 11 v9 v9.heap.size A0 am0 := rd_grown rd0 hHeld.1
  have rdC := r2
  have hbv9 : Below w.heap.size w v9 := below_then hb5 hHeld.1
  clear hb6 hb7 hb8 hb9 hbx8 hE8 hHeld hR rd0 r2 r1
  obtain ⟨b0, off0, rfl, hbb0, f0, f1, f2, f3, f4, f5, f6, f7, f8, f9, f10⟩ := en_cells rdA (k := 0) (x := ⟨1, 0, 10, 2, 7, 2, 5, 0, 0, 0, 0⟩) rfl
  obtain ⟨b0', off0', hbq, hbb1, g0, g1, g2, g3, g4, g5, g6, g7, g8, g9, g10⟩ := en_cells rdA (k := 1) (x := ⟨1, 10, 20, 1, 7, 7, 7, 0, 0, 0, 0⟩) rfl
  obtain ⟨rfl, rfl⟩ : b0 = b0' ∧ off0 = off0' := by simpa using hbq
  obtain ⟨b2, off2, rfl, hbb2, k0, k1, k2, k3, k4, k5, k6, k7, k8, k9, k10⟩ := en_cells rdC (k := 0) (x := ⟨1, 3, 14, 3, 0, 0, 0, 0, 0, 0, 0⟩) rfl
  go_wp2_with fail
  have hfire := fire_any (some ⟨b0, off0, none⟩) c0 2 am0 10 v9 rfl (by omega) rdA
  unfold FireP at hfire
  rw [alive_f] at hfire
  go_at_call 22
  refine hfire.mono ?_
  rintro r u1 ⟨v1, v2, rfl, o1, o2, -, hu1⟩
  obtain ⟨A3, c3, rfl, m3, z3⟩ := own_shape_z o1 (n := 1) rfl
  obtain ⟨A4, c4, rfl, m4, z4⟩ := own_shape_z o2 (n := 1) rfl
  have hr3 := Own.rd enenc_len o1
  have hr4 := Own.rd enenc_len o2
  have rdU := rd_grown rdA hu1
  have hF := bfacts hu1
  have hca : (1 : Int) ≤ (c0 : Int) := by omega
  have hcb : (2 : Int) ≤ (c0 : Int) := by omega
  simp only [Nat.zero_mul, Nat.one_mul, Nat.add_zero] at f0 f1 f2 f3 f4 f5 f6 g0 g1 g2 g3 g4 g5 g6 k0 k1 k2
  clear hfire o1 o2
  go_wp2_with fail
  go_at_call 32
  refine (rsameE_any _ _ c3 c0 1 1 _ _ u1 hr3 (rd_take rdU 1) rfl rfl (by omega)).mono ?_
  rintro r u2 ⟨rfl, hu2⟩
  have hq1 : entsEq [⟨1, 0, 10, 2, 7, 2, 5, 0, 0, 0, 0⟩] (am0.take 1) = true := by decide
  rw [hq1]
  have hu12 := below_then hu1 hu2
  have hF2 := bfacts hu12
  go_wp2_with fail
  go_at_call 32
  refine (rsameE_any _ _ c4 (c0 - 1) 1 1 _ _ u2 (rd_grown hr4 hu2) (rd_grown (rd_drop rdU 1) hu2) rfl rfl (by omega)).mono ?_
  rintro r u3 ⟨rfl, hu3⟩
  have hq2 : entsEq [⟨1, 10, 20, 1, 7, 7, 7, 0, 0, 0, 0⟩] (am0.drop 1) = true := by decide
  rw [hq2]
  have hF3 := bfacts (below_then hu12 hu3)
  go_wp2_with fail
  go_ret
  exact ⟨rfl, below_then hbv9 (below_then hu12 hu3)⟩
end Go.Proofs.Ytbbdepeifdbbdaa
