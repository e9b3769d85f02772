/- The walk of TopWindows: the layers of windows agree. No condition. -/
import Derived.Test.YtbbdepeifdbbdaaTopPlain
import Derived.Test.YtbbdepeifdbbdaaTopSum
import Derived.Test.YtbbdepeifdbbdaaTopPlaced
import Derived.Test.YtbbdepeifdbbdaaStoreAliveP
namespace Go.Proofs.Ytbbdepeifdbbdaa
open Go.RowKit Go.ChangeShapes Go.WideShapes Go.ChangeAt Go.Deep

theorem add_of_all18 {wk ws we : Int} {l : List Pt} {k : Nat} {p : Pt} {a b : List En} (hp : l[k]? = some p) (ha : allE wk ws we [] (l.take k) = some a) (hb : allE wk ws we [] (l.take (k + 1)) = some b) : addE a wk ws we p.k p.t p.v p.d = (b, 0) := by
  rw [allE_snoc hp ha] at hb
  split at hb
  · rename_i h
    injection hb with hb
    exact Prod.ext hb h
  · cases hb
theorem add_lit18 {l P : List En} {wk ws we rk rt rv side e : Int} (h : addE l wk ws we rk rt rv side = (P, e)) (hwe : (Lit.int .i64 we).wf = true) (A : Option Addr) (c n m : Nat) (W : World) (hn : l.length = n) (hm : P.length = m) (hz : A = none → c = 0) (hs : n ≤ 1099511627776) (hr : Rd enenc 11 W W.heap.size A l) :
    Calls Try.prog 19 #[.slice A n c, .agg #[.int .u8 wk, .int .i64 ws, .int .i64 we], .agg #[.int .i64 rk, .int .i64 rt, .int .i64 rv], .int .i64 side] W fun r w' => ∃ A' c', r = .returned (.tuple #[.slice A' m c', .int .i64 e]) ∧ m ≤ c' ∧ (A' = none → c' = 0) ∧ Rd enenc 11 w' w'.heap.size A' P ∧ Below W.heap.size W w' := by
  refine (add_any A c n l wk ws we rk rt rv side hwe W hn hz hs hr).mono ?_
  rintro r w' ⟨v, rfl, own, hb⟩
  rw [h] at own ⊢
  obtain ⟨A', c', rfl, h1, h2⟩ := own_shape_z own hm
  exact ⟨A', c', rfl, h1, h2, Own.rd enenc_len own, hb⟩
theorem al18a : addE [] 1 4 0 0 1 2 0 = ([⟨0, 0, 4, 1, 2, 2, 2, 0, 0, 0, 0⟩], 0) := addE_lit val_nil (by unfold wok; decide) (.inl rfl) (by decide) (by decide +kernel)
theorem al18b : addE [⟨0, 0, 4, 1, 2, 2, 2, 0, 0, 0, 0⟩] 1 4 0 0 3 5 0 = ([⟨0, 0, 4, 2, 7, 2, 5, 0, 0, 0, 0⟩], 0) := addE_lit ⟨by decide, by decide, by simp [SS]⟩ (by unfold wok; decide) (.inl rfl) (by decide) (by decide +kernel)
set_option maxHeartbeats 16000000 in
set_option maxRecDepth 100000 in
theorem topalive_any (w : World) : Calls Try.prog 16 #[] w fun e w' => e = .returned (.bool true) ∧ Below w.heap.size w w' := by
  have hl1 := (Loc.nil w).new [.int .u8 1, .int .i64 4, .int .i64 0] 23
  have hb1 := below_new (Below.refl w.heap.size w) (.cells #[.int .u8 1, .int .i64 4, .int .i64 0] 23)
  go_enter Try.func16, Try.ntmps16
  have hF := hl1
  (repeat unfold Loc at hF)
  go_wp2_with fail
  go_at_call 19
  refine (add_lit18 al18a (by decide) none 0 0 1 _ rfl rfl (fun _ => rfl) (by decide) Rd.nil).mono ?_
  rintro r w2 ⟨A2, c2, rfl, m2, z2, r2, hb2⟩
  have hl2 := hl1.below hb2
  clear hF
  have hF := hl2
  (repeat unfold Loc at hF)
  go_wp2_with fail
  go_at_call 19
  refine (add_lit18 al18b (by decide) A2 c2 1 1 _ rfl rfl z2 (by decide) r2).mono ?_
  rintro r w3 ⟨A3, c3, rfl, m3, z3, r3, hb3⟩
  obtain ⟨b, off, hA, -, f0, f1, f2, f3, f4, f5, f6, -⟩ := en_cells r3 (k := 0) (x := ⟨0, 0, 4, 2, 7, 2, 5, 0, 0, 0, 0⟩) rfl
  subst hA
  simp only [Nat.zero_mul, Nat.add_zero] at f0 f1 f2 f3 f4 f5 f6
  clear hF
  go_wp2
  go_ret
  exact ⟨rfl, below_then (below_then hb1 hb2) hb3⟩
theorem fire_lit18 {a F R : List En} {mark : Int} {nf nr : Nat} (hck : enchk a = 0) (hF : a.filter (endsE mark) = F) (hR : a.filter (fun x => !endsE mark x) = R) (hnf : F.length = nf) (hnr : R.length = nr) (A : Option Addr) (c m : Nat) (W : World) (hm : a.length = m) (hb : m ≤ 1099511627776) (hr : Rd enenc 11 W W.heap.size A a) :
    Calls Try.prog 22 #[.slice A m c, .int .i64 mark] W fun r w' => ∃ A1 c1 A2 c2, r = .returned (.tuple #[.slice A1 nf c1, .slice A2 nr c2, .int .i64 0]) ∧ Rd enenc 11 w' w'.heap.size A1 F ∧ Below W.heap.size W w' := by
  refine (fire_any A c m a mark W hm hb hr).mono ?_
  rintro r w' ⟨v1, v2, rfl, own1, own2, -, hbb⟩
  have e : fireE a mark = (F, R, 0) := by unfold fireE; rw [if_neg (by simp [hck]), hF, hR]
  rw [e] at own1 own2 ⊢
  obtain ⟨A1, c1, rfl, -⟩ := own_shape_n own1 hnf
  obtain ⟨A2, c2, rfl, -⟩ := own_shape_n own2 hnr
  exact ⟨A1, c1, A2, c2, rfl, Own.rd enenc_len own1, hbb⟩
theorem until_lit18 {h U V : List Tm} {mark : Int} {nf nr : Nat} (hu : tuntil h mark = (U, V, 0)) (hnf : U.length = nf) (hnr : V.length = nr) (A : Option Addr) (c q : Nat) (W : World) (hq : h.length = q) (hb : q ≤ 1099511627776) (hr : Rd tenc 3 W W.heap.size A h) :
    Calls Try.prog 23 #[.slice A q c, .int .i64 mark] W fun r w' => ∃ A1 c1 A2 c2, r = .returned (.tuple #[.slice A1 nf c1, .slice A2 nr c2, .int .i64 0]) ∧ Rd tenc 3 w' w'.heap.size A1 U ∧ Below W.heap.size W w' := by
  subst hq
  refine (tuntil_any A c h mark W hb hr).mono ?_
  rintro r w' ⟨v1, v2, rfl, own1, own2, hbb⟩
  rw [hu] at own1 own2 ⊢
  obtain ⟨A1, c1, rfl, -⟩ := own_shape_n own1 hnf
  obtain ⟨A2, c2, rfl, -⟩ := own_shape_n own2 hnr
  exact ⟨A1, c1, A2, c2, rfl, Own.rd tenc_len own1, hbb⟩
theorem neq_span18 (s e : Int) (w : World) : (binOp .neq 38 (.agg #[.int .i64 s, .int .i64 e]) (.agg #[.int .i64 s, .int .i64 e])).run Try.prog w = .ok (.bool false) w := by
  go_simp
set_option maxHeartbeats 16000000 in
set_option maxRecDepth 100000 in
theorem topWindows_walk {w : World} (wk : Int) (_wwk : (Lit.int .u8 wk).wf = true) (ws : Int) (_wws : (Lit.int .i64 ws).wf = true) (we : Int) (wwe : (Lit.int .i64 we).wf = true)
    (A : Option Addr) (c : Nat) (l : List Pt) (_lc : l.length ≤ c) (_lm : c ≤ maxLen) (lw : ∀ x ∈ l, rctok x) (lr : Rd rcenc 3 w w.heap.size A l) (_ln : A = none → c = 0) (mark : Int) (_wm : (Lit.int .i64 mark).wf = true) :
    Calls Try.prog 3 #[.agg #[.int .u8 wk, .int .i64 ws, .int .i64 we], .slice A l.length c, .int .i64 mark] w fun r w' => r = .returned (.bool true) ∧ Below w.heap.size w w' := by
  obtain ⟨n, hn⟩ : ∃ n, l.length = n := ⟨_, rfl⟩
  rw [hn]
  have hs := fun W => rwindow_any wk ws we wwe W
  obtain ⟨C, hC⟩ : ∃ C, C = wchk wk ws we := ⟨_, rfl⟩
  rw [← hC] at hs
  have HSL := Lib.hid hs; have HLN := Lib.hid hn; have HOK := Lib.hid lw
  have hl0 : Loc (w.alloc (.cells #[.int .u8 wk, .int .i64 ws, .int .i64 we] 23)) [(w.heap.size, [.int .u8 wk, .int .i64 ws, .int .i64 we])] := (Loc.nil w).new [.int .u8 wk, .int .i64 ws, .int .i64 we] 23
  have hb0 : Below w.heap.size w (w.alloc (.cells #[.int .u8 wk, .int .i64 ws, .int .i64 we] 23)) := below_new (Below.refl _ _) _
  clear hs hn lw
  by_cases h30 : 30 < n
  · have d1 : decide ((30 : Int) < (n : Int)) = true := by simp; omega
    have d1' : decide (30 < n) = true := by simp [h30]
    clear hC
    go_enter Try.func3, Try.ntmps3
    go_wp2_with fail
    go_at_call 16
    refine (topalive_any _).mono ?_
    rintro r w2 ⟨rfl, hb2⟩
    go_wp2
    go_ret
    exact ⟨rfl, below_then hb0 hb2⟩
  · have d1 : decide ((30 : Int) < (n : Int)) = false := by simp; omega
    have d1' : decide (30 < n) = false := by simp; omega
    by_cases hC0 : C = 0
    · have hwok : wok wk ws we := by
        rw [hC] at hC0
        unfold wchk at hC0
        split at hC0
        · assumption
        · cases hC0
      have HW := Lib.hid hwok
      subst hC0
      clear hwok hC
      go_enter Try.func3, Try.ntmps3
      go_wp2_with fail
      go_at_call 16
      refine (topalive_any _).mono ?_
      rintro r w2 ⟨rfl, hb2⟩
      have hl2 := hl0.below hb2
      have hbb2 := below_then hb0 hb2
      clear hl0 hb0 hb2
      have hF := hl2
      (repeat unfold Loc at hF)
      go_wp2_with fail
      go_at_call 17
      refine (HSL.out _).mono ?_
      rintro r w3 ⟨rfl, hb3⟩
      have hl3 := hl2.below hb3
      have hbb3 := below_then hbb2 hb3
      clear hF hl2 hbb2 hb3
      go_wp2_with fail
      go_loopw [8, 10] (fun ov iv wr => ∃ (k : Nat) (a : List En), iv = .int .i64 k ∧ k ≤ n ∧ Own enenc 11 wr w.heap.size 43 ov a ∧ allE wk ws we [] (l.take k) = some a ∧ (∀ x ∈ l.take k, timeB x = true) ∧ a.length ≤ 4000 ∧ Loc wr [(w.heap.size, [.int .u8 wk, .int .i64 ws, .int .i64 we])] ∧ Below w.heap.size w wr) (fun _ iv _ => n - (intOf iv).toNat)
      case atStart => exact ⟨0, [], rfl, Nat.zero_le _, Own.nil _ _ _, rfl, by simp, by simp, hl3, hbb3⟩
      case round =>
        obtain ⟨k, a, rfl, hk, ho, hall, htk, hla, hl, hb⟩ := hrel
        have HALL := Lib.hid hall; have HTK := Lib.hid htk
        clear hall hl3 htk hbb3
        obtain ⟨m, hm⟩ : ∃ m, a.length = m := ⟨_, rfl⟩
        rw [hm] at hla
        obtain ⟨Ar, cr, rfl, -⟩ := own_shape_n ho hm
        have HM := Lib.hid hm
        have HZ := Lib.hid (own_noneZ ho)
        clear hm
        by_cases hlt : k < n
        · have hF := hl
          (repeat unfold Loc at hF)
          obtain ⟨p, hp⟩ : ∃ p, l[k]? = some p := ⟨_, List.getElem?_eq_getElem (by rw [HLN.out]; exact hlt)⟩
          obtain ⟨b, off, rfl, hbb, f0, f1, f2⟩ := rc_cells (rd_grown lr hb) hp
          have hpl := List.mem_of_getElem? hp
          have d5 : decide ((k : Int) < (n : Int)) = true := by simp; omega
          have d5' : decide (k < n) = true := by simp [hlt]
          have k1 : (0 : Int) ≤ (k : Int) := by omega
          have k2 : (k : Int) < (n : Int) := by omega
          have e1 : IntKind.i64.wrap ((k : Int) + 1) = (k : Int) + 1 := IntWalk.i64_in _ (by omega)
          by_cases ht : timeB p = true
          · obtain ⟨s1, s2, s3, s4, ⟨a2, s5, s6, s7⟩, s8⟩ := vals_step HW.out (fun x hx => (HOK.out x hx).1) (by rw [HLN.out]; omega) hp ht HTK.out HALL.out
            have hadd := add_of_all18 hp HALL.out s6
            rw [(HOK.out p hpl).1] at hadd
            have htc := fun W => rcheck_any p.t 1 W
            rw [show tchk p.t 1 = 0 by unfold timeB at ht; unfold tchk; simp at ht; rw [if_neg (by omega), if_neg (by omega)]] at htc
            have hcall := fun W (h : Rd enenc 11 W W.heap.size Ar a) => add_any Ar cr m a wk ws we p.k p.t p.v 0 wwe W HM.out HZ.out (by omega) h
            unfold AddP at hcall
            rw [hadd] at hcall
            simp only at hcall
            have HCALL := Lib.hid hcall; have HTC := Lib.hid htc; have S7 := Lib.hid s7; have S6 := Lib.hid s6; have S8 := Lib.hid s8
            clear hcall htc hp hpl ht s1 s2 s3 s4 s5 s6 s7 s8 hlt hadd
            go_wp2_with fail
            go_at_call 18
            refine (HTC.out _).mono ?_
            rintro r w4 ⟨rfl, rfl⟩
            go_wp2_with fail
            obtain ⟨lE, hE, hRR⟩ := Env.abs (w0 := wr) (Below.refl _ _) hl
            (repeat unfold Loc at hRR)
            have hRg : ∀ X, Env wr lE X → X.cell? ⟨b, off + k * 3, none⟩ = some (.int .i64 p.k) ∧ X.cell? ⟨b, off + k * 3 + 1, none⟩ = some (.int .i64 p.t) ∧ X.cell? ⟨b, off + k * 3 + 2, none⟩ = some (.int .i64 p.v) := fun X hX => ⟨(hX.1.cell (p := ⟨b, off + k * 3, none⟩) hbb).trans f0, (hX.1.cell (p := ⟨b, off + k * 3 + 1, none⟩) hbb).trans f1, (hX.1.cell (p := ⟨b, off + k * 3 + 2, none⟩) hbb).trans f2⟩
            clear hF f0 f1 f2
            refine wp_region_held_drew (S := Env wr lE) (by kernel_rfl) (by (first | assumption | exact Env.step (by assumption) (by assumption) | exact Env.old (by assumption) _ | exact Env.drew hE | exact hE | exact Env.drew (by assumption) | exact Env.drew (Env.old (by assumption) _) | ((repeat first | refine Env.far0 ?_ (by assumption) _ | refine Env.far1 ?_ (by assumption) _ | refine Env.farA ?_ (by assumption) _); assumption))) (fun hHeld => ?_)
            refine hTake 0 (by kernel_rfl) (by kernel_rfl) (by kernel_rfl) (by decide) (by assumption) ?_; (intro oi hoi; simp only [List.getElem?_toArray, List.getElem?_cons_zero] at hoi; obtain rfl := Option.some.inj hoi; clear hoi); refine ⟨rfl, ?_⟩; apply Exists.intro; refine ⟨?_, fun _ _ _ h => h, ?_⟩; (intro w hSw; (try dsimp only at hSw); go_simp; (try with_reducible rfl)); (try simp only [Act.put, List.setIfInBounds_toArray, List.set_cons_zero, List.set_cons_succ]); refine hTake 1 (by kernel_rfl) (by kernel_rfl) (by kernel_rfl) (by decide) (by assumption) ?_; (intro oi hoi; simp only [List.getElem?_toArray, List.getElem?_cons_succ, List.getElem?_cons_zero] at hoi; obtain rfl := Option.some.inj hoi; clear hoi); refine ⟨rfl, ?_⟩; apply Exists.intro; refine ⟨?_, fun _ _ _ h => h, ?_⟩; (intro w hSw; (try dsimp only at hSw); go_simp; (try with_reducible rfl)); (try simp only [Act.put, List.setIfInBounds_toArray, List.set_cons_zero, List.set_cons_succ]); refine hTake 2 (by kernel_rfl) (by kernel_rfl) (by kernel_rfl) (by decide) (by assumption) ?_; (intro oi hoi; simp only [List.getElem?_toArray, List.getElem?_cons_succ, List.getElem?_cons_zero] at hoi; obtain rfl := Option.some.inj hoi; clear hoi); refine ⟨rfl, ?_⟩; apply Exists.intro; refine ⟨?_, fun _ _ _ h => h, ?_⟩; (intro w hSw; (try dsimp only at hSw); go_simp; (try with_reducible rfl)); (try simp only [Act.put, List.setIfInBounds_toArray, List.set_cons_zero, List.set_cons_succ]); refine hTake 3 (by kernel_rfl) (by kernel_rfl) (by kernel_rfl) (by decide) (by assumption) ?_; (intro oi hoi; simp only [List.getElem?_toArray, List.getElem?_cons_succ, List.getElem?_cons_zero] at hoi; obtain rfl := Option.some.inj hoi; clear hoi); refine ⟨rfl, ?_⟩; apply Exists.intro; refine ⟨?_, fun _ _ _ h => h, ?_⟩; (intro w hSw; (try dsimp only at hSw); go_simp; (try with_reducible rfl)); (try simp only [Act.put, List.setIfInBounds_toArray, List.set_cons_zero, List.set_cons_succ]); refine hTake 4 (by kernel_rfl) (by kernel_rfl) (by kernel_rfl) (by decide) (by assumption) ?_; (intro oi hoi; simp only [List.getElem?_toArray, List.getElem?_cons_succ, List.getElem?_cons_zero] at hoi; obtain rfl := Option.some.inj hoi; clear hoi); refine ⟨rfl, ?_⟩; apply Exists.intro; refine ⟨?_, fun _ _ _ h => h, ?_⟩; (intro w hSw; (try dsimp only at hSw); go_simp; (try with_reducible rfl)); (try simp only [Act.put, List.setIfInBounds_toArray, List.set_cons_zero, List.set_cons_succ]); refine hTake 5 (by kernel_rfl) (by kernel_rfl) (by kernel_rfl) (by decide) (by assumption) ?_; (intro oi hoi; simp only [List.getElem?_toArray, List.getElem?_cons_succ, List.getElem?_cons_zero] at hoi; obtain rfl := Option.some.inj hoi; clear hoi); refine ⟨rfl, ?_⟩; apply Exists.intro; refine ⟨?_, fun _ _ _ h => h, ?_⟩; (intro w hSw; (try dsimp only at hSw); go_simp; (try with_reducible rfl)); (try simp only [Act.put, List.setIfInBounds_toArray, List.set_cons_zero, List.set_cons_succ])
            refine hOnly 6 (by kernel_rfl) (by decide) ?_; (intro oi hoi; simp only [List.getElem?_toArray, List.getElem?_cons_succ, List.getElem?_cons_zero] at hoi; obtain rfl := Option.some.inj hoi; clear hoi); intro K hK; go_simp
            go_at_call 19
            refine (HCALL.out wr.drew (Rd.drew (Own.rd enenc_len ho))).mono ?_
            rintro r w5 ⟨v5, rfl, own5, hb5⟩
            have hEhb5 := Env.step hb5 (by assumption); (try (have hqhb5 := (by with_reducible first | exact Loc.below hb5 (Loc.new (Loc.nil _) _ _) | exact Loc.below hb5 (Loc.drew (Loc.new (Loc.nil _) _ _)) | exact Loc.below hb5 (by assumption : Loc _ [_])); (repeat rw [World.size_drew] at hqhb5); (repeat rw [World.size_alloc] at hqhb5); have hrhb5 := hqhb5; (repeat unfold Loc at hrhb5)))
            (refine hK.out _ _ (by (first | assumption | exact Env.step (by assumption) (by assumption) | exact Env.old (by assumption) _ | exact Env.drew hE | exact hE | exact Env.drew (by assumption) | exact Env.drew (Env.old (by assumption) _) | ((repeat first | refine Env.far0 ?_ (by assumption) _ | refine Env.far1 ?_ (by assumption) _ | refine Env.farA ?_ (by assumption) _); assumption))) (fun hHeld => ?_); clear hK K; (try simp only [Act.put, List.setIfInBounds_toArray, List.set_cons_zero, List.set_cons_succ]))
            refine hTake 7 (by kernel_rfl) (by kernel_rfl) (by kernel_rfl) (by decide) (by assumption) ?_; (intro oi hoi; simp only [List.getElem?_toArray, List.getElem?_cons_succ, List.getElem?_cons_zero] at hoi; obtain rfl := Option.some.inj hoi; clear hoi); refine ⟨rfl, ?_⟩; apply Exists.intro; refine ⟨?_, fun _ _ _ h => h, ?_⟩; (intro w hSw; (try dsimp only at hSw); go_simp; (try with_reducible rfl)); (try simp only [Act.put, List.setIfInBounds_toArray, List.set_cons_zero, List.set_cons_succ]); refine hTake 8 (by kernel_rfl) (by kernel_rfl) (by kernel_rfl) (by decide) (by assumption) ?_; (intro oi hoi; simp only [List.getElem?_toArray, List.getElem?_cons_succ, List.getElem?_cons_zero] at hoi; obtain rfl := Option.some.inj hoi; clear hoi); refine ⟨rfl, ?_⟩; apply Exists.intro; refine ⟨?_, fun _ _ _ h => h, ?_⟩; (intro w hSw; (try dsimp only at hSw); go_simp; (try with_reducible rfl)); (try simp only [Act.put, List.setIfInBounds_toArray, List.set_cons_zero, List.set_cons_succ]); refine hTake 9 (by kernel_rfl) (by kernel_rfl) (by kernel_rfl) (by decide) (by assumption) ?_; (intro oi hoi; simp only [List.getElem?_toArray, List.getElem?_cons_succ, List.getElem?_cons_zero] at hoi; obtain rfl := Option.some.inj hoi; clear hoi); refine ⟨rfl, ?_⟩; apply Exists.intro; refine ⟨?_, fun _ _ _ h => h, ?_⟩; (intro w hSw; (try dsimp only at hSw); go_simp; (try with_reducible rfl)); (try simp only [Act.put, List.setIfInBounds_toArray, List.set_cons_zero, List.set_cons_succ]); refine hTake 10 (by kernel_rfl) (by kernel_rfl) (by kernel_rfl) (by decide) (by assumption) ?_; (intro oi hoi; simp only [List.getElem?_toArray, List.getElem?_cons_succ, List.getElem?_cons_zero] at hoi; obtain rfl := Option.some.inj hoi; clear hoi); refine ⟨rfl, ?_⟩; apply Exists.intro; refine ⟨?_, fun _ _ _ h => h, ?_⟩; (intro w hSw; (try dsimp only at hSw); go_simp; (try with_reducible rfl)); (try simp only [Act.put, List.setIfInBounds_toArray, List.set_cons_zero, List.set_cons_succ]); refine hTake 11 (by kernel_rfl) (by kernel_rfl) (by kernel_rfl) (by decide) (by assumption) ?_; (intro oi hoi; simp only [List.getElem?_toArray, List.getElem?_cons_succ, List.getElem?_cons_zero] at hoi; obtain rfl := Option.some.inj hoi; clear hoi); refine ⟨rfl, ?_⟩; apply Exists.intro; refine ⟨?_, fun _ _ _ h => h, ?_⟩; (intro w hSw; (try dsimp only at hSw); go_simp; (try with_reducible rfl)); (try simp only [Act.put, List.setIfInBounds_toArray, List.set_cons_zero, List.set_cons_succ])
            refine wpAnyH_done (by kernel_rfl) ?_ _
            have hl5 := hl.drew.below hb5
            have hb6 : Below w.heap.size w w5 := below_then (below_drew hb) hb5
            have own6 := own5.mono hb.size
            clear hRR hRg
            go_wp2
            go_roundw
            case rel => exact ⟨k + 1, a2, by go_num, by omega, own6, S6.out, S8.out, S7.out, hl5, hb6⟩
            case measure => simp [intOf]; omega
          · have htc := fun W => rcheck_any p.t 1 W
            rw [show tchk p.t 1 = 16 by unfold timeB at ht; unfold tchk; simp at ht; rw [if_neg (by omega), if_pos (by omega)]] at htc
            have HTC := Lib.hid htc
            clear htc hp hpl ht hlt
            go_wp2_with fail
            go_at_call 18
            refine (HTC.out _).mono ?_
            rintro r w4 ⟨rfl, rfl⟩
            go_wp2
            go_ret
            exact ⟨rfl, hb⟩
        · obtain rfl : n = k := by omega
          obtain ⟨wA, rfl⟩ : ∃ wA, wA = wr := ⟨_, rfl⟩
          have d5 : decide ((n : Int) < (n : Int)) = false := by simp
          have d5' : decide (n < n) = false := by simp
          have htall : ∀ x ∈ l, timeB x = true := by
            have h1 := HTK.out
            rwa [List.take_of_length_le (by rw [HLN.out]; exact Nat.le_refl _)] at h1
          have hokP : ∀ p ∈ l, okP p := fun p hp => ⟨by have := htall p hp; unfold timeB at this; simpa using this, .inl (HOK.out p hp).1⟩
          have hd0 : ∀ p ∈ l, p.d = 0 := fun p hp => (HOK.out p hp).1
          obtain ⟨a', a1, a2, a3, a4, a5⟩ := all_inv HW.out l.length l rfl (by rw [HLN.out]; omega) hokP
          have hea : a' = a := by
            have h2 := HALL.out
            rw [List.take_of_length_le (by rw [HLN.out]; exact Nat.le_refl _), a1] at h2
            exact Option.some.inj h2
          subst hea
          have h16 := sumW_16 HW.out l
          rw [HLN.out] at h16
          have hm480 : m ≤ 480 := by rw [← HM.out]; omega
          have hez := enchk_zero.1 a3
          have hra := Own.rd enenc_len ho
          have HOP := Lib.hid hokP; have HD0 := Lib.hid hd0; have HINV := Lib.hid a2; have HCK := Lib.hid a3; have HEN := Lib.hid hez.2.1; have HSS := Lib.hid hez.2.2
          have hla' : ∀ W, Rd rcenc 3 W W.heap.size A l → True := fun _ _ => trivial
          have hlA := rd_grown lr hb
          clear hokP hd0 a1 a2 a3 a4 a5 h16 hez ho htall hla' hlt HALL HTK
          have em : IntKind.i64.wrap ((m : Int) - 1) = (m : Int) - 1 := IntWalk.i64_in _ (by omega)
          go_wp2_with fail
          go_loopw [9, 13] (fun hv iv wr => ∃ (j : Nat) (h : List Tm), iv = .int .i64 ((j : Int) - 1) ∧ j ≤ m ∧ Own tenc 3 wr wA.heap.size 45 hv h ∧ thv h ∧ h.Perm ((a'.drop j).map tmE) ∧ Below wA.heap.size wA wr) (fun _ iv _ => (intOf iv + 1).toNat)
          case atStart => exact ⟨m, [], rfl, Nat.le_refl _, Own.nil _ _ _, thv_nil, by rw [List.drop_of_length_le (by rw [HM.out]; exact Nat.le_refl _)]; exact List.Perm.refl _, Below.refl _ _⟩
          case round =>
            obtain ⟨j, h, rfl, hj, hown, hhv, hhp, hbw⟩ := hrel
            have HHV := Lib.hid hhv; have HHP := Lib.hid hhp
            obtain ⟨q, hq⟩ : ∃ q, h.length = q := ⟨_, rfl⟩
            have hq2 : q = m - j := by rw [← hq, hhp.length_eq, List.length_map, List.length_drop, HM.out]
            obtain ⟨Ah, ch, rfl, -⟩ := own_shape_n hown hq
            have HQ := Lib.hid hq; have HQ2 := Lib.hid hq2
            have hbW : Below w.heap.size w wr := hb.trans (hbw.mono hb.size)
            have hraW := rd_grown hra hbw
            have hlrW := rd_grown hlA hbw
            clear hhv hhp hq hq2
            by_cases hj0 : 0 < j
            · obtain ⟨i, rfl⟩ : ∃ i, j = i + 1 := ⟨j - 1, by omega⟩
              obtain ⟨x, hx⟩ : ∃ x, a'[i]? = some x := ⟨_, List.getElem?_eq_getElem (by rw [HM.out]; omega)⟩
              have hxm := List.mem_of_getElem? hx
              have hxo := HEN.out x hxm
              obtain ⟨p1, p2, p3⟩ := push_more hx HHV.out HHP.out hxo (by rw [HM.out]; omega)
              obtain ⟨s1, s2, s3⟩ := entry_sum HINV.out HD0.out hxm hxo
              obtain ⟨b, off, rfl, hbb, f0, f1, f2, f3, f4, f5, f6, f7, f8, f9, f10⟩ := en_cells hraW hx
              have hpc := fun W (g : Rd tenc 3 W W.heap.size Ah h) => push_any Ah ch h (tmE x) W (by rw [HQ.out, HQ2.out]; omega) g
              rw [p1, HQ.out] at hpc
              simp only [tmE] at hpc
              have hsc : ∀ W, Rd rcenc 3 W W.heap.size A l → Calls Try.prog 21 #[.agg #[.int .i64 x.k, .int .i64 x.s, .int .i64 x.e, .int .i64 x.c1, .int .i64 x.s1, .int .i64 x.m1, .int .i64 x.x1, .int .i64 x.c2, .int .i64 x.s2, .int .i64 x.m2, .int .i64 x.x2], .slice A n c] W fun r w' => r = .returned (.bool true) ∧ Below W.heap.size W w' := fun W g => summed18_any x A c n l W HLN.out (by omega) g s1 s2 s3
              have HPC := Lib.hid hpc; have HSC := Lib.hid hsc; have P2 := Lib.hid p2; have P3 := Lib.hid p3
              have e0 : ((i + 1 : Nat) : Int) - 1 = (i : Int) := by omega
              rw [e0]
              have d6 : decide ((0 : Int) ≤ (i : Int)) = true := by simp
              have k1 : (0 : Int) ≤ (i : Int) := by omega
              have k2 : (i : Int) < (m : Int) := by omega
              have e1 : IntKind.i64.wrap ((i : Int) - 1) = (i : Int) - 1 := IntWalk.i64_in _ (by omega)
              have hE : Env wr [] wr := ⟨Below.refl _ _, trivial⟩
              have hRg : ∀ X, Env wr [] X → X.cell? ⟨b, off + i * 11, none⟩ = some (.int .i64 x.k) ∧ X.cell? ⟨b, off + i * 11 + 1, none⟩ = some (.int .i64 x.s) ∧ X.cell? ⟨b, off + i * 11 + 2, none⟩ = some (.int .i64 x.e) := fun X hX => ⟨(hX.1.cell (p := ⟨b, off + i * 11, none⟩) hbb).trans f0, (hX.1.cell (p := ⟨b, off + i * 11 + 1, none⟩) hbb).trans f1, (hX.1.cell (p := ⟨b, off + i * 11 + 2, none⟩) hbb).trans f2⟩
              have HF := Lib.hid (And.intro f0 (And.intro f1 (And.intro f2 (And.intro f3 (And.intro f4 (And.intro f5 (And.intro f6 (And.intro f7 (And.intro f8 (And.intro f9 f10))))))))))
              clear hpc hsc p1 p2 p3 s1 s2 s3 hx hxm hxo e0 hj0 f0 f1 f2 f3 f4 f5 f6 f7 f8 f9 f10 em
              go_wp2_with fail
              refine wp_region_held_drew (S := Env wr []) (by kernel_rfl) (by (first | assumption | exact Env.step (by assumption) (by assumption) | exact Env.old (by assumption) _ | exact Env.drew hE | exact hE | exact Env.drew (by assumption) | exact Env.drew (Env.old (by assumption) _) | ((repeat first | refine Env.far0 ?_ (by assumption) _ | refine Env.far1 ?_ (by assumption) _ | refine Env.farA ?_ (by assumption) _); assumption))) (fun hHeld => ?_)
              refine hTake 0 (by kernel_rfl) (by kernel_rfl) (by kernel_rfl) (by decide) (by assumption) ?_; (intro oi hoi; simp only [List.getElem?_toArray, List.getElem?_cons_zero] at hoi; obtain rfl := Option.some.inj hoi; clear hoi); refine ⟨rfl, ?_⟩; apply Exists.intro; refine ⟨?_, fun _ _ _ h => h, ?_⟩; (intro w hSw; (try dsimp only at hSw); go_simp; (try with_reducible rfl)); (try simp only [Act.put, List.setIfInBounds_toArray, List.set_cons_zero, List.set_cons_succ]); refine hTake 1 (by kernel_rfl) (by kernel_rfl) (by kernel_rfl) (by decide) (by assumption) ?_; (intro oi hoi; simp only [List.getElem?_toArray, List.getElem?_cons_succ, List.getElem?_cons_zero] at hoi; obtain rfl := Option.some.inj hoi; clear hoi); refine ⟨rfl, ?_⟩; apply Exists.intro; refine ⟨?_, fun _ _ _ h => h, ?_⟩; (intro w hSw; (try dsimp only at hSw); go_simp; (try with_reducible rfl)); (try simp only [Act.put, List.setIfInBounds_toArray, List.set_cons_zero, List.set_cons_succ]); refine hTake 2 (by kernel_rfl) (by kernel_rfl) (by kernel_rfl) (by decide) (by assumption) ?_; (intro oi hoi; simp only [List.getElem?_toArray, List.getElem?_cons_succ, List.getElem?_cons_zero] at hoi; obtain rfl := Option.some.inj hoi; clear hoi); refine ⟨rfl, ?_⟩; apply Exists.intro; refine ⟨?_, fun _ _ _ h => h, ?_⟩; (intro w hSw; (try dsimp only at hSw); go_simp; (try with_reducible rfl)); (try simp only [Act.put, List.setIfInBounds_toArray, List.set_cons_zero, List.set_cons_succ]); refine hTake 3 (by kernel_rfl) (by kernel_rfl) (by kernel_rfl) (by decide) (by assumption) ?_; (intro oi hoi; simp only [List.getElem?_toArray, List.getElem?_cons_succ, List.getElem?_cons_zero] at hoi; obtain rfl := Option.some.inj hoi; clear hoi); refine ⟨rfl, ?_⟩; apply Exists.intro; refine ⟨?_, fun _ _ _ h => h, ?_⟩; (intro w hSw; (try dsimp only at hSw); go_simp; (try with_reducible rfl)); (try simp only [Act.put, List.setIfInBounds_toArray, List.set_cons_zero, List.set_cons_succ]); refine hTake 4 (by kernel_rfl) (by kernel_rfl) (by kernel_rfl) (by decide) (by assumption) ?_; (intro oi hoi; simp only [List.getElem?_toArray, List.getElem?_cons_succ, List.getElem?_cons_zero] at hoi; obtain rfl := Option.some.inj hoi; clear hoi); refine ⟨rfl, ?_⟩; apply Exists.intro; refine ⟨?_, fun _ _ _ h => h, ?_⟩; (intro w hSw; (try dsimp only at hSw); go_simp; (try with_reducible rfl)); (try simp only [Act.put, List.setIfInBounds_toArray, List.set_cons_zero, List.set_cons_succ]); refine hTake 5 (by kernel_rfl) (by kernel_rfl) (by kernel_rfl) (by decide) (by assumption) ?_; (intro oi hoi; simp only [List.getElem?_toArray, List.getElem?_cons_succ, List.getElem?_cons_zero] at hoi; obtain rfl := Option.some.inj hoi; clear hoi); refine ⟨rfl, ?_⟩; apply Exists.intro; refine ⟨?_, fun _ _ _ h => h, ?_⟩; (intro w hSw; (try dsimp only at hSw); go_simp; (try with_reducible rfl)); (try simp only [Act.put, List.setIfInBounds_toArray, List.set_cons_zero, List.set_cons_succ]); refine hTake 6 (by kernel_rfl) (by kernel_rfl) (by kernel_rfl) (by decide) (by assumption) ?_; (intro oi hoi; simp only [List.getElem?_toArray, List.getElem?_cons_succ, List.getElem?_cons_zero] at hoi; obtain rfl := Option.some.inj hoi; clear hoi); refine ⟨rfl, ?_⟩; apply Exists.intro; refine ⟨?_, fun _ _ _ h => h, ?_⟩; (intro w hSw; (try dsimp only at hSw); go_simp; (try with_reducible rfl)); (try simp only [Act.put, List.setIfInBounds_toArray, List.set_cons_zero, List.set_cons_succ]); refine hTake 7 (by kernel_rfl) (by kernel_rfl) (by kernel_rfl) (by decide) (by assumption) ?_; (intro oi hoi; simp only [List.getElem?_toArray, List.getElem?_cons_succ, List.getElem?_cons_zero] at hoi; obtain rfl := Option.some.inj hoi; clear hoi); refine ⟨rfl, ?_⟩; apply Exists.intro; refine ⟨?_, fun _ _ _ h => h, ?_⟩; (intro w hSw; (try dsimp only at hSw); go_simp; (try with_reducible rfl)); (try simp only [Act.put, List.setIfInBounds_toArray, List.set_cons_zero, List.set_cons_succ]); refine hTake 8 (by kernel_rfl) (by kernel_rfl) (by kernel_rfl) (by decide) (by assumption) ?_; (intro oi hoi; simp only [List.getElem?_toArray, List.getElem?_cons_succ, List.getElem?_cons_zero] at hoi; obtain rfl := Option.some.inj hoi; clear hoi); refine ⟨rfl, ?_⟩; apply Exists.intro; refine ⟨?_, fun _ _ _ h => h, ?_⟩; (intro w hSw; (try dsimp only at hSw); go_simp; (try with_reducible rfl)); (try simp only [Act.put, List.setIfInBounds_toArray, List.set_cons_zero, List.set_cons_succ]); refine hTake 9 (by kernel_rfl) (by kernel_rfl) (by kernel_rfl) (by decide) (by assumption) ?_; (intro oi hoi; simp only [List.getElem?_toArray, List.getElem?_cons_succ, List.getElem?_cons_zero] at hoi; obtain rfl := Option.some.inj hoi; clear hoi); refine ⟨rfl, ?_⟩; apply Exists.intro; refine ⟨?_, fun _ _ _ h => h, ?_⟩; (intro w hSw; (try dsimp only at hSw); go_simp; (try with_reducible rfl)); (try simp only [Act.put, List.setIfInBounds_toArray, List.set_cons_zero, List.set_cons_succ]); refine hTake 10 (by kernel_rfl) (by kernel_rfl) (by kernel_rfl) (by decide) (by assumption) ?_; (intro oi hoi; simp only [List.getElem?_toArray, List.getElem?_cons_succ, List.getElem?_cons_zero] at hoi; obtain rfl := Option.some.inj hoi; clear hoi); refine ⟨rfl, ?_⟩; apply Exists.intro; refine ⟨?_, fun _ _ _ h => h, ?_⟩; (intro w hSw; (try dsimp only at hSw); go_simp; (try with_reducible rfl)); (try simp only [Act.put, List.setIfInBounds_toArray, List.set_cons_zero, List.set_cons_succ]); refine hTake 11 (by kernel_rfl) (by kernel_rfl) (by kernel_rfl) (by decide) (by assumption) ?_; (intro oi hoi; simp only [List.getElem?_toArray, List.getElem?_cons_succ, List.getElem?_cons_zero] at hoi; obtain rfl := Option.some.inj hoi; clear hoi); refine ⟨rfl, ?_⟩; apply Exists.intro; refine ⟨?_, fun _ _ _ h => h, ?_⟩; (intro w hSw; (try dsimp only at hSw); go_simp; (try with_reducible rfl)); (try simp only [Act.put, List.setIfInBounds_toArray, List.set_cons_zero, List.set_cons_succ])
              refine hOnly 12 (by kernel_rfl) (by decide) ?_; (intro oi hoi; simp only [List.getElem?_toArray, List.getElem?_cons_succ, List.getElem?_cons_zero] at hoi; obtain rfl := Option.some.inj hoi; clear hoi); intro K hK; go_simp
              go_at_call 20
              refine (HPC.out wr.drew (Rd.drew (Own.rd tenc_len hown))).mono ?_
              rintro r w5 ⟨v5, rfl, own5, hb5⟩
              have hEhb5 := Env.step hb5 (by assumption); (try (have hqhb5 := (by with_reducible first | exact Loc.below hb5 (Loc.new (Loc.nil _) _ _) | exact Loc.below hb5 (Loc.drew (Loc.new (Loc.nil _) _ _)) | exact Loc.below hb5 (by assumption : Loc _ [_])); (repeat rw [World.size_drew] at hqhb5); (repeat rw [World.size_alloc] at hqhb5); have hrhb5 := hqhb5; (repeat unfold Loc at hrhb5)))
              (refine hK.out _ _ (by (first | assumption | exact Env.step (by assumption) (by assumption) | exact Env.old (by assumption) _ | exact Env.drew hE | exact hE | exact Env.drew (by assumption) | exact Env.drew (Env.old (by assumption) _) | ((repeat first | refine Env.far0 ?_ (by assumption) _ | refine Env.far1 ?_ (by assumption) _ | refine Env.farA ?_ (by assumption) _); assumption))) (fun hHeld => ?_); clear hK K; (try simp only [Act.put, List.setIfInBounds_toArray, List.set_cons_zero, List.set_cons_succ]))
              refine hTake 13 (by kernel_rfl) (by kernel_rfl) (by kernel_rfl) (by decide) (by assumption) ?_; (intro oi hoi; simp only [List.getElem?_toArray, List.getElem?_cons_succ, List.getElem?_cons_zero] at hoi; obtain rfl := Option.some.inj hoi; clear hoi); refine ⟨rfl, ?_⟩; apply Exists.intro; refine ⟨?_, fun _ _ _ h => h, ?_⟩; (intro w hSw; (try dsimp only at hSw); go_simp; (try with_reducible rfl)); (try simp only [Act.put, List.setIfInBounds_toArray, List.set_cons_zero, List.set_cons_succ]); refine hTake 14 (by kernel_rfl) (by kernel_rfl) (by kernel_rfl) (by decide) (by assumption) ?_; (intro oi hoi; simp only [List.getElem?_toArray, List.getElem?_cons_succ, List.getElem?_cons_zero] at hoi; obtain rfl := Option.some.inj hoi; clear hoi); refine ⟨rfl, ?_⟩; apply Exists.intro; refine ⟨?_, fun _ _ _ h => h, ?_⟩; (intro w hSw; (try dsimp only at hSw); go_simp; (try with_reducible rfl)); (try simp only [Act.put, List.setIfInBounds_toArray, List.set_cons_zero, List.set_cons_succ]); refine hTake 15 (by kernel_rfl) (by kernel_rfl) (by kernel_rfl) (by decide) (by assumption) ?_; (intro oi hoi; simp only [List.getElem?_toArray, List.getElem?_cons_succ, List.getElem?_cons_zero] at hoi; obtain rfl := Option.some.inj hoi; clear hoi); refine ⟨rfl, ?_⟩; apply Exists.intro; refine ⟨?_, fun _ _ _ h => h, ?_⟩; (intro w hSw; (try dsimp only at hSw); go_simp; (try with_reducible rfl)); (try simp only [Act.put, List.setIfInBounds_toArray, List.set_cons_zero, List.set_cons_succ]); refine hTake 16 (by kernel_rfl) (by kernel_rfl) (by kernel_rfl) (by decide) (by assumption) ?_; (intro oi hoi; simp only [List.getElem?_toArray, List.getElem?_cons_succ, List.getElem?_cons_zero] at hoi; obtain rfl := Option.some.inj hoi; clear hoi); refine ⟨rfl, ?_⟩; apply Exists.intro; refine ⟨?_, fun _ _ _ h => h, ?_⟩; (intro w hSw; (try dsimp only at hSw); go_simp; (try with_reducible rfl)); (try simp only [Act.put, List.setIfInBounds_toArray, List.set_cons_zero, List.set_cons_succ]); refine hTake 17 (by kernel_rfl) (by kernel_rfl) (by kernel_rfl) (by decide) (by assumption) ?_; (intro oi hoi; simp only [List.getElem?_toArray, List.getElem?_cons_succ, List.getElem?_cons_zero] at hoi; obtain rfl := Option.some.inj hoi; clear hoi); refine ⟨rfl, ?_⟩; apply Exists.intro; refine ⟨?_, fun _ _ _ h => h, ?_⟩; (intro w hSw; (try dsimp only at hSw); go_simp; (try with_reducible rfl)); (try simp only [Act.put, List.setIfInBounds_toArray, List.set_cons_zero, List.set_cons_succ])
              refine wpAnyH_done (by kernel_rfl) ?_ _
              have hb6 : Below wr.heap.size wr w5 := below_then (below_drew (Below.refl _ _)) hb5
              obtain ⟨f0, f1, f2, f3, f4, f5, f6, f7, f8, f9, f10⟩ := HF.out
              obtain ⟨hc5, hfz5⟩ := bcell hb6
              have own6 := own5.mono hbw.size
              clear hRg hE hHeld hb5 own5
              go_wp2_with fail
              go_at_call 21
              refine (HSC.out _ (rd_grown hlrW hb6)).mono ?_
              rintro r w6 ⟨rfl, hb7⟩
              have own7 := own6.below hb7
              have hb8 : Below wA.heap.size wA w6 := below_then (below_then hbw hb6) hb7
              clear f0 f1 f2 f3 f4 f5 f6 f7 f8 f9 f10 hc5 hfz5 own6
              go_wp2
              go_roundw
              case rel => exact ⟨i, _, by go_num, by omega, own7, P2.out, P3.out, hb8⟩
              case measure => simp [intOf] <;> omega
            · obtain rfl : j = 0 := by omega
              have d6 : decide ((0 : Int) ≤ ((0 : Nat) : Int) - 1) = false := by simp
              obtain ⟨F, hF⟩ : ∃ F, a'.filter (endsE mark) = F := ⟨_, rfl⟩
              obtain ⟨R, hR⟩ : ∃ R, a'.filter (fun x => !endsE mark x) = R := ⟨_, rfl⟩
              obtain ⟨nf, hnf⟩ : ∃ nf, F.length = nf := ⟨_, rfl⟩
              obtain ⟨nr, hnr⟩ : ∃ nr, R.length = nr := ⟨_, rfl⟩
              have hperm := HHP.out
              rw [List.drop_zero] at hperm
              obtain ⟨V, hu, hV⟩ := fired_up (mark := mark) HSS.out HHV.out hperm (by rw [HM.out]; omega)
              rw [hF] at hu
              rw [hR, hnr] at hV
              have hUl : (F.map tmE).length = nf := by rw [List.length_map, hnf]
              have hfc := fun W (g : Rd enenc 11 W W.heap.size Ar a') => fire_lit18 HCK.out hF hR hnf hnr Ar cr m W HM.out (by omega) g
              have huc := fun W (g : Rd tenc 3 W W.heap.size Ah h) => until_lit18 hu hUl hV Ah ch q W HQ.out (by rw [HQ2.out]; omega) g
              have HFC := Lib.hid hfc; have HUC := Lib.hid huc; have HNF := Lib.hid hnf
              have hnfm : nf ≤ m := by rw [← hnf, ← hF, ← HM.out]; exact List.length_filter_le _ _
              clear hF hR hnr hperm hu hV hUl hfc huc hnf
              have n1 : ((nf : Int) != (nf : Int)) = false := by simp
              have n2 : ((nr : Int) != (nr : Int)) = false := by simp
              have hlW := hl.below hbw
              have hFo := hlW
              (repeat unfold Loc at hFo)
              go_wp2_with fail
              go_at_call 22
              refine (HFC.out _ hraW).mono ?_
              rintro r w5 ⟨A1, c1, A2, c2, rfl, rF, hb5⟩
              go_wp2_with fail
              go_at_call 23
              refine (HUC.out _ (rd_grown (Own.rd tenc_len hown) hb5)).mono ?_
              rintro r w6 ⟨A3, c3, A4, c4, rfl, rU, hb6⟩
              have rF6 := rd_grown rF hb6
              have hbX : Below wr.heap.size wr w6 := below_then hb5 hb6
              have hl6 := hlW.below hbX
              have hb06 : Below w.heap.size w w6 := below_then hbW hbX
              have hra6 := rd_grown hraW hbX
              have hlr6 := rd_grown hlrW hbX
              clear hFo hlW hbX hb5 hb6 rF hraW hlrW hown hbw hbW hra hlA hl hb
              go_wp2_with fail
              go_loopw [22] (fun iv wr => ∃ k : Nat, k ≤ nf ∧ iv = .int .i64 k ∧ ∃ q : Nat, wr = w6.drewN q) (fun iv _ => nf - (intOf iv).toNat)
              case atStart => exact ⟨0, Nat.zero_le _, rfl, 0, rfl⟩
              case round =>
                obtain ⟨k, hk3, rfl, q3, rfl⟩ := hrel
                by_cases hlt : k < nf
                · obtain ⟨x, hx⟩ : ∃ x, F[k]? = some x := ⟨_, List.getElem?_eq_getElem (by rw [HNF.out]; exact hlt)⟩
                  have hy : (F.map tmE)[k]? = some (tmE x) := by rw [List.getElem?_map, hx]; rfl
                  obtain ⟨b, off, rfl, hb, f0, f1, f2, f3, f4, f5, f6, f7, f8, f9, f10⟩ := en_cells rF6 hx
                  obtain ⟨b', off', rfl, hb', g0, g1, g2⟩ := tm_cells rU hy
                  simp only [tmE] at g0 g1 g2
                  have hrun := neq_span18 x.s x.e
                  have d7 : decide ((k : Int) < (nf : Int)) = true := by simp; omega
                  have d7' : decide (k < nf) = true := by simp [hlt]
                  have k1 : (0 : Int) ≤ (k : Int) := by omega
                  have k2 : (k : Int) < (nf : Int) := by omega
                  have e1 : IntKind.i64.wrap ((k : Int) + 1) = (k : Int) + 1 := IntWalk.i64_in _ (by omega)
                  have nk : (x.k != x.k) = false := by simp
                  clear hx hy f3 f4 f5 f6 f7 f8 f9 f10 em
                  go_wp2
                  (refine wp_region_quiet_lit (by kernel_rfl) (by kernel_rfl) ?_; (repeat (any_goals (first | go_big_quiet_step (fail) | quiet_step (fail)))); all_goals (refine wpQuiet_nil ?_; intro _ hw'; obtain ⟨nq, hw''⟩ := hw'; subst hw''))
                  go_wp2
                  go_roundw
                  case rel => exact ⟨k + 1, by omega, by go_num, _, rfl⟩
                  case measure => simp [intOf]; omega
                · obtain rfl : k = nf := by omega
                  have d7 : decide ((k : Int) < (k : Int)) = false := by simp
                  have d7' : decide (k < k) = false := by simp
                  obtain ⟨wq, hwq⟩ : ∃ wq, wq = w6.drewN q3 := ⟨_, rfl⟩
                  rw [← hwq]
                  have hlq : Loc wq [(w.heap.size, [.int .u8 wk, .int .i64 ws, .int .i64 we])] := by rw [hwq]; exact hl6.below (below_drewN (Below.refl _ _) _)
                  have hb0q : Below w.heap.size w wq := by rw [hwq]; exact below_drewN hb06 _
                  have hraq : Rd enenc 11 wq wq.heap.size Ar a' := by rw [hwq]; exact hra6
                  have hlrq : Rd rcenc 3 wq wq.heap.size A l := by rw [hwq]; exact hlr6
                  clear hwq hl6 hb06 hra6 hlr6 rF6 rU hlt
                  go_wp2_with fail
                  go_loopw [23] (fun iv wr => ∃ k : Nat, k ≤ n ∧ iv = .int .i64 k ∧ Below wq.heap.size wq wr) (fun iv _ => n - (intOf iv).toNat)
                  case atStart => exact ⟨0, Nat.zero_le _, rfl, Below.refl _ _⟩
                  case round =>
                    obtain ⟨k, hk4, rfl, hb4⟩ := hrel
                    by_cases hlt : k < n
                    · obtain ⟨p, hp⟩ : ∃ p, l[k]? = some p := ⟨_, List.getElem?_eq_getElem (by rw [HLN.out]; exact hlt)⟩
                      have hpm := List.mem_of_getElem? hp
                      have hl4 := hlq.below hb4
                      have hra4 := rd_grown hraq hb4
                      have hlr4 := rd_grown hlrq hb4
                      obtain ⟨b, off, rfl, hbb, f0, f1, f2⟩ := rc_cells hlr4 hp
                      have hpl := fun W (g1 : Rd rcenc 3 W W.heap.size (some ⟨b, off, none⟩) l) (g2 : Rd enenc 11 W W.heap.size Ar a') => placed18_any (some ⟨b, off, none⟩) Ar c cr n m l a' p wk ws we wwe W HLN.out (by omega) HM.out hm480 g1 g2 HW.out HOP.out hpm HINV.out HCK.out
                      have HPL := Lib.hid hpl
                      have d8 : decide ((k : Int) < (n : Int)) = true := by simp; omega
                      have d8' : decide (k < n) = true := by simp [hlt]
                      have k1 : (0 : Int) ≤ (k : Int) := by omega
                      have k2 : (k : Int) < (n : Int) := by omega
                      have e1 : IntKind.i64.wrap ((k : Int) + 1) = (k : Int) + 1 := IntWalk.i64_in _ (by omega)
                      clear hp hpm hpl
                      go_wp2_with fail
                      obtain ⟨lE, hE, hRR⟩ := Env.abs (w0 := wr) (Below.refl _ _) hl4
                      (repeat unfold Loc at hRR)
                      have hRg : ∀ X, Env wr lE X → X.cell? ⟨b, off + k * 3, none⟩ = some (.int .i64 p.k) ∧ X.cell? ⟨b, off + k * 3 + 1, none⟩ = some (.int .i64 p.t) ∧ X.cell? ⟨b, off + k * 3 + 2, none⟩ = some (.int .i64 p.v) := fun X hX => ⟨(hX.1.cell (p := ⟨b, off + k * 3, none⟩) hbb).trans f0, (hX.1.cell (p := ⟨b, off + k * 3 + 1, none⟩) hbb).trans f1, (hX.1.cell (p := ⟨b, off + k * 3 + 2, none⟩) hbb).trans f2⟩
                      clear f0 f1 f2
                      refine wp_region_held_drew (S := Env wr lE) (by kernel_rfl) (by (first | assumption | exact Env.step (by assumption) (by assumption) | exact Env.old (by assumption) _ | exact Env.drew hE | exact hE | exact Env.drew (by assumption) | exact Env.drew (Env.old (by assumption) _) | ((repeat first | refine Env.far0 ?_ (by assumption) _ | refine Env.far1 ?_ (by assumption) _ | refine Env.farA ?_ (by assumption) _); assumption))) (fun hHeld => ?_)
                      refine hTake 0 (by kernel_rfl) (by kernel_rfl) (by kernel_rfl) (by decide) (by assumption) ?_; (intro oi hoi; simp only [List.getElem?_toArray, List.getElem?_cons_zero] at hoi; obtain rfl := Option.some.inj hoi; clear hoi); refine ⟨rfl, ?_⟩; apply Exists.intro; refine ⟨?_, fun _ _ _ h => h, ?_⟩; (intro w hSw; (try dsimp only at hSw); go_simp; (try with_reducible rfl)); (try simp only [Act.put, List.setIfInBounds_toArray, List.set_cons_zero, List.set_cons_succ]); refine hTake 1 (by kernel_rfl) (by kernel_rfl) (by kernel_rfl) (by decide) (by assumption) ?_; (intro oi hoi; simp only [List.getElem?_toArray, List.getElem?_cons_succ, List.getElem?_cons_zero] at hoi; obtain rfl := Option.some.inj hoi; clear hoi); refine ⟨rfl, ?_⟩; apply Exists.intro; refine ⟨?_, fun _ _ _ h => h, ?_⟩; (intro w hSw; (try dsimp only at hSw); go_simp; (try with_reducible rfl)); (try simp only [Act.put, List.setIfInBounds_toArray, List.set_cons_zero, List.set_cons_succ]); refine hTake 2 (by kernel_rfl) (by kernel_rfl) (by kernel_rfl) (by decide) (by assumption) ?_; (intro oi hoi; simp only [List.getElem?_toArray, List.getElem?_cons_succ, List.getElem?_cons_zero] at hoi; obtain rfl := Option.some.inj hoi; clear hoi); refine ⟨rfl, ?_⟩; apply Exists.intro; refine ⟨?_, fun _ _ _ h => h, ?_⟩; (intro w hSw; (try dsimp only at hSw); go_simp; (try with_reducible rfl)); (try simp only [Act.put, List.setIfInBounds_toArray, List.set_cons_zero, List.set_cons_succ]); refine hTake 3 (by kernel_rfl) (by kernel_rfl) (by kernel_rfl) (by decide) (by assumption) ?_; (intro oi hoi; simp only [List.getElem?_toArray, List.getElem?_cons_succ, List.getElem?_cons_zero] at hoi; obtain rfl := Option.some.inj hoi; clear hoi); refine ⟨rfl, ?_⟩; apply Exists.intro; refine ⟨?_, fun _ _ _ h => h, ?_⟩; (intro w hSw; (try dsimp only at hSw); go_simp; (try with_reducible rfl)); (try simp only [Act.put, List.setIfInBounds_toArray, List.set_cons_zero, List.set_cons_succ]); refine hTake 4 (by kernel_rfl) (by kernel_rfl) (by kernel_rfl) (by decide) (by assumption) ?_; (intro oi hoi; simp only [List.getElem?_toArray, List.getElem?_cons_succ, List.getElem?_cons_zero] at hoi; obtain rfl := Option.some.inj hoi; clear hoi); refine ⟨rfl, ?_⟩; apply Exists.intro; refine ⟨?_, fun _ _ _ h => h, ?_⟩; (intro w hSw; (try dsimp only at hSw); go_simp; (try with_reducible rfl)); (try simp only [Act.put, List.setIfInBounds_toArray, List.set_cons_zero, List.set_cons_succ]); refine hTake 5 (by kernel_rfl) (by kernel_rfl) (by kernel_rfl) (by decide) (by assumption) ?_; (intro oi hoi; simp only [List.getElem?_toArray, List.getElem?_cons_succ, List.getElem?_cons_zero] at hoi; obtain rfl := Option.some.inj hoi; clear hoi); refine ⟨rfl, ?_⟩; apply Exists.intro; refine ⟨?_, fun _ _ _ h => h, ?_⟩; (intro w hSw; (try dsimp only at hSw); go_simp; (try with_reducible rfl)); (try simp only [Act.put, List.setIfInBounds_toArray, List.set_cons_zero, List.set_cons_succ]); refine hTake 6 (by kernel_rfl) (by kernel_rfl) (by kernel_rfl) (by decide) (by assumption) ?_; (intro oi hoi; simp only [List.getElem?_toArray, List.getElem?_cons_succ, List.getElem?_cons_zero] at hoi; obtain rfl := Option.some.inj hoi; clear hoi); refine ⟨rfl, ?_⟩; apply Exists.intro; refine ⟨?_, fun _ _ _ h => h, ?_⟩; (intro w hSw; (try dsimp only at hSw); go_simp; (try with_reducible rfl)); (try simp only [Act.put, List.setIfInBounds_toArray, List.set_cons_zero, List.set_cons_succ])
                      refine hOnly 7 (by kernel_rfl) (by decide) ?_; (intro oi hoi; simp only [List.getElem?_toArray, List.getElem?_cons_succ, List.getElem?_cons_zero] at hoi; obtain rfl := Option.some.inj hoi; clear hoi); intro K hK; go_simp
                      go_at_call 24
                      refine (HPL.out wr.drew (Rd.drew hlr4) (Rd.drew hra4)).mono ?_
                      rintro r w5 ⟨rfl, hb5⟩
                      have hEhb5 := Env.step hb5 (by assumption); (try (have hqhb5 := (by with_reducible first | exact Loc.below hb5 (Loc.new (Loc.nil _) _ _) | exact Loc.below hb5 (Loc.drew (Loc.new (Loc.nil _) _ _)) | exact Loc.below hb5 (by assumption : Loc _ [_])); (repeat rw [World.size_drew] at hqhb5); (repeat rw [World.size_alloc] at hqhb5); have hrhb5 := hqhb5; (repeat unfold Loc at hrhb5)))
                      (refine hK.out _ _ (by (first | assumption | exact Env.step (by assumption) (by assumption) | exact Env.old (by assumption) _ | exact Env.drew hE | exact hE | exact Env.drew (by assumption) | exact Env.drew (Env.old (by assumption) _) | ((repeat first | refine Env.far0 ?_ (by assumption) _ | refine Env.far1 ?_ (by assumption) _ | refine Env.farA ?_ (by assumption) _); assumption))) (fun hHeld => ?_); clear hK K; (try simp only [Act.put, List.setIfInBounds_toArray, List.set_cons_zero, List.set_cons_succ]))
                      refine hTake 8 (by kernel_rfl) (by kernel_rfl) (by kernel_rfl) (by decide) (by assumption) ?_; (intro oi hoi; simp only [List.getElem?_toArray, List.getElem?_cons_succ, List.getElem?_cons_zero] at hoi; obtain rfl := Option.some.inj hoi; clear hoi); refine ⟨rfl, ?_⟩; apply Exists.intro; refine ⟨?_, fun _ _ _ h => h, ?_⟩; (intro w hSw; (try dsimp only at hSw); go_simp; (try with_reducible rfl)); (try simp only [Act.put, List.setIfInBounds_toArray, List.set_cons_zero, List.set_cons_succ])
                      refine wpAnyH_done (by kernel_rfl) ?_ _
                      have hb6 : Below wq.heap.size wq w5 := below_then (below_drew hb4) hb5
                      clear hRR hRg
                      go_wp2
                      go_roundw
                      case rel => exact ⟨k + 1, by omega, by go_num, hb6⟩
                      case measure => simp [intOf]; omega
                    · obtain rfl : n = k := by omega
                      have d8 : decide ((n : Int) < (n : Int)) = false := by simp
                      have d8' : decide (n < n) = false := by simp
                      go_wp2
                      go_ret
                      exact ⟨rfl, below_then hb0q hb4⟩
    · have d2 : (C != 0) = true := by simp [hC0]
      clear hC0 hC
      go_enter Try.func3, Try.ntmps3
      go_wp2_with fail
      go_at_call 16
      refine (topalive_any _).mono ?_
      rintro r w2 ⟨rfl, hb2⟩
      have hl2 := hl0.below hb2
      have hF := hl2
      (repeat unfold Loc at hF)
      go_wp2_with fail
      go_at_call 17
      refine (HSL.out _).mono ?_
      rintro r w3 ⟨rfl, hb3⟩
      go_wp2
      go_ret
      exact ⟨rfl, below_then (below_then hb0 hb2) hb3⟩
end Go.Proofs.Ytbbdepeifdbbdaa
