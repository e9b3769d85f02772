/- The walk of StoreHas: each record is in as many entries as its time has windows. No condition. -/
import Derived.Test.YtbbdepeifdbbdaaStoreInv4
import Derived.Test.YtbbdepeifdbbdaaStoreFew
import Derived.Test.YtbbdepeifdbbdaaStoreAlive
import Derived.Test.YtbbdepeifdbbdaaStoreTells
namespace Go.Proofs.Ytbbdepeifdbbdaa
open Go.RowKit Go.ChangeShapes Go.WideShapes Go.ChangeAt Go.Deep

def cntE (l : List En) : Int := (l.map fun x => x.c1 + x.c2).sum
theorem cntE_tot (l : List En) : cntE l = tot1 l + tot2 l := by
  induction l with
  | nil => rfl
  | cons x l ih =>
    have e : cntE (x :: l) = x.c1 + x.c2 + cntE l := by simp [cntE]
    rw [e, (tot_cons x l).1, (tot_cons x l).2, ih]
    omega
theorem cntE_take {l : List En} {i : Nat} {x : En} (h : l[i]? = some x) : cntE (l.take (i + 1)) = cntE (l.take i) + (x.c1 + x.c2) := by
  unfold cntE
  rw [List.take_add_one, h]
  simp
theorem cntE_app (l m : List En) : cntE (l ++ m) = cntE l + cntE m := by simp [cntE]
theorem sumW_app (wk ws we : Int) (l m : List Pt) : sumW wk ws we (l ++ m) = sumW wk ws we l + sumW wk ws we m := by simp [sumW]
theorem cntE_le {l : List En} (h : ∀ x ∈ l, 0 ≤ x.c1 + x.c2) (i : Nat) : 0 ≤ cntE (l.take i) ∧ cntE (l.take i) ≤ cntE l := by
  have hn : ∀ m : List En, (∀ x ∈ m, 0 ≤ x.c1 + x.c2) → 0 ≤ cntE m := by
    intro m
    induction m with
    | nil => intro _; simp [cntE]
    | cons x m ih =>
      intro hm
      have e : cntE (x :: m) = x.c1 + x.c2 + cntE m := by simp [cntE]
      have := ih (fun y hy => hm y (by simp [hy]))
      have := hm x (by simp)
      omega
  have e : cntE l = cntE (l.take i) + cntE (l.drop i) := by
    have := cntE_app (l.take i) (l.drop i)
    rwa [List.take_append_drop] at this
  have h1 := hn (l.take i) (fun x hx => h x (List.mem_of_mem_take hx))
  have h2 := hn (l.drop i) (fun x hx => h x (List.mem_of_mem_drop hx))
  omega
theorem sumW_take {wk ws we : Int} {l : List Pt} {k : Nat} {p : Pt} (h : l[k]? = some p) : sumW wk ws we (l.take (k + 1)) = sumW wk ws we (l.take k) + nW wk ws we p := by
  rw [List.take_add_one, h]
  exact sumW_snoc wk ws we _ p
theorem sumW_le {wk ws we : Int} (l : List Pt) (k : Nat) : sumW wk ws we (l.take k) ≤ sumW wk ws we l := by
  have e : sumW wk ws we l = sumW wk ws we (l.take k) + sumW wk ws we (l.drop k) := by
    have := sumW_app wk ws we (l.take k) (l.drop k)
    rwa [List.take_append_drop] at this
  omega
/-- What the walk uses of the store of few records. -/
structure HasF (wk ws we : Int) (l : List Pt) (a : List En) : Prop where
  all : allE wk ws we [] l = some a
  len : a.length ≤ 640
  cnt : ∀ r ∈ l, (a.filter (fun x => inE x r)).length = nW wk ws we r ∧ nW wk ws we r ≤ 16
  tot : cntE a = (sumW wk ws we l : Nat)
  sum : sumW wk ws we l ≤ 640
  pos : ∀ x ∈ a, 0 ≤ x.c1 ∧ x.c1 ≤ 40 ∧ 0 ≤ x.c2 ∧ x.c2 ≤ 40
theorem hasF {wk ws we : Int} {l : List Pt} (h1 : ∀ p ∈ l, okP p) (h2 : l.length ≤ 40) (h3 : wok wk ws we) : ∃ a, HasF wk ws we l a := by
  obtain ⟨a, a1, a2, a3, a4, a5⟩ := all_inv h3 _ l rfl (by omega) h1
  have h16 := sumW_16 h3 l
  refine ⟨a, a1, by omega, fun r hr => ⟨inv_count a2 h3 h1 hr, nW_16 h3 r⟩, by rw [cntE_tot, a4], by omega, fun x hx => ?_⟩
  have hr := ((inv_mem a2 x).1 hx).2
  have hw := enw_c (inv_w a2 h3 h1 x hx)
  have := hr.le
  omega
set_option maxHeartbeats 16000000 in
set_option maxRecDepth 100000 in
theorem storeHas_walk {w : World} (wk : Int) (_wwk : (Lit.int .u8 wk).wf = true) (ws : Int) (_wws : (Lit.int .i64 ws).wf = true) (we : Int) (wwe : (Lit.int .i64 we).wf = true)
    (A : Option Addr) (c : Nat) (l : List Pt) (_lc : l.length ≤ c) (_lm : c ≤ maxLen) (_lw : ∀ x ∈ l, ptok x) (lr : Rd penc 4 w w.heap.size A l) (_ln : A = none → c = 0) :
    Calls Try.prog 12 #[.agg #[.int .u8 wk, .int .i64 ws, .int .i64 we], .slice A l.length c] w fun r w' => r = .returned (.bool true) ∧ Below w.heap.size w w' := by
  obtain ⟨n, hn⟩ : ∃ n, l.length = n := ⟨_, rfl⟩
  rw [hn] at _lc ⊢
  obtain ⟨F, hF0⟩ : ∃ F, F = fewB wk ws we l := ⟨_, rfl⟩
  have hl1 : Loc (w.alloc (.cells #[.int .u8 wk, .int .i64 ws, .int .i64 we] 23)) [(w.heap.size, [.int .u8 wk, .int .i64 ws, .int .i64 we])] := (Loc.nil w).new [.int .u8 wk, .int .i64 ws, .int .i64 we] 23
  have hb1 : Below w.heap.size w (w.alloc (.cells #[.int .u8 wk, .int .i64 ws, .int .i64 we] 23)) := (by repeat (first | with_reducible exact Below.refl _ _ | with_reducible assumption | (with_reducible exact Env.below (by assumption)) | (with_reducible refine below_new ?_ _) | (with_reducible refine below_drew ?_) | (with_reducible refine below_drewN ?_ _) | (with_reducible refine below_put ?_ ?_ _; rotate_left 1; (dsimp only; omega)) | (with_reducible refine below_then ?_ (by assumption))))
  have hfew := fun W (h : Rd penc 4 W W.heap.size A l) => few17_any A c n l wk ws we wwe W hn h
  rw [← hF0] at hfew
  have HFEW := Lib.hid hfew; have HN := Lib.hid hn
  clear hfew hn
  cases F with
  | false =>
    clear hF0
    go_enter Try.func12, Try.ntmps12
    go_wp2_with fail
    go_at_call 45
    refine (alive17 _).mono ?_
    rintro r w1 ⟨rfl, hb2⟩
    have hl2 := hl1.below hb2
    have hF := hl2
    (repeat unfold Loc at hF)
    go_wp2_with fail
    go_at_call 46
    refine (HFEW.out w1 (rd_grown lr (below_then hb1 hb2))).mono ?_
    rintro r w2 ⟨rfl, hb3⟩
    clear hF
    go_wp2
    go_ret
    exact ⟨rfl, below_then (below_then hb1 hb2) hb3⟩
  | true =>
    obtain ⟨hok, hn40, hwok⟩ := few_true hF0.symm
    rw [HN.out] at hn40
    obtain ⟨a, ha⟩ := hasF hok (by rw [HN.out]; exact hn40) hwok
    obtain ⟨m, hm⟩ : ∃ m, a.length = m := ⟨_, rfl⟩
    have hm6 := ha.len
    rw [hm] at hm6
    obtain ⟨S, hS⟩ : ∃ S : Nat, S = sumW wk ws we l := ⟨_, rfl⟩
    have hs6 := ha.sum
    rw [← hS] at hs6
    have HA := Lib.hid ha; have HM := Lib.hid hm; have HOK := Lib.hid hok; have HS := Lib.hid hS; have HW := Lib.hid hwok
    clear hF0 ha hm hok hwok hS
    go_enter Try.func12, Try.ntmps12
    go_wp2_with fail
    go_at_call 45
    refine (alive17 _).mono ?_
    rintro r w1 ⟨rfl, hb2⟩
    have hl2 := hl1.below hb2
    have hF := hl2
    (repeat unfold Loc at hF)
    go_wp2_with fail
    go_at_call 46
    refine (HFEW.out w1 (rd_grown lr (below_then hb1 hb2))).mono ?_
    rintro r w2 ⟨rfl, hb3⟩
    have hb03 := below_then (below_then hb1 hb2) hb3
    have hl3 := hl2.below hb3
    clear hF hl1 hl2 hb1 hb2 hb3
    have hF := hl3
    (repeat unfold Loc at hF)
    go_wp2_with fail
    go_at_call 47
    refine (all_lit HA.out.all wwe A c n m w2 HN.out HM.out (by omega) (rd_grown lr hb03)).mono ?_
    rintro r w7 ⟨A3, c3, rfl, m3, z3, ra7, hb4⟩
    have hb07 := below_then hb03 hb4
    have hl7 : Loc w7 [(w.heap.size, [.int .u8 wk, .int .i64 ws, .int .i64 we])] := hl3.below hb4
    have lr7 := rd_grown lr hb07
    clear hF hl3 hb03 hb4 w1 HFEW
    go_wp2_with fail
    go_loopw [8, 9] (fun wv iv wr => ∃ (k s : Nat), iv = .int .i64 k ∧ k ≤ n ∧ wv = .int .i64 s ∧ s = sumW wk ws we (l.take k) ∧ Below w7.heap.size w7 wr) (fun _ iv _ => n - (intOf iv).toNat)
    case atStart => exact ⟨0, 0, rfl, Nat.zero_le _, rfl, rfl, Below.refl _ _⟩
    case round =>
      obtain ⟨k, s, rfl, hk, rfl, hs, hb⟩ := hrel
      have hsS : s ≤ S := by rw [hs, HS.out]; exact sumW_le l k
      have HSK := Lib.hid hs
      clear hs
      obtain ⟨w8, hw8⟩ : ∃ w8, w8 = wr := ⟨_, rfl⟩
      subst hw8
      by_cases hlt : k < n
      · obtain ⟨r, hr⟩ : ∃ r, l[k]? = some r := ⟨_, List.getElem?_eq_getElem (by rw [HN.out]; exact hlt)⟩
        have hnext := sumW_take (wk := wk) (ws := ws) (we := we) hr
        obtain ⟨hcnt, h16⟩ := HA.out.cnt r (List.mem_of_getElem? hr)
        obtain ⟨⟨rt1, rt2⟩, -⟩ := HOK.out r (List.mem_of_getElem? hr)
        obtain ⟨N, hN⟩ : ∃ N, N = nW wk ws we r := ⟨_, rfl⟩
        rw [← hN] at hcnt h16 hnext
        rw [← HSK.out] at hnext
        have hn2 : s + N ≤ S := by rw [← hnext, HS.out]; exact sumW_le l (k + 1)
        obtain ⟨b, off, rfl, hbb, f0, f1, f2, f3⟩ := pt_cells (rd_grown lr7 hb) hr
        obtain ⟨q1, q2, q3, q4⟩ := r
        simp only at f0 f1 f2 f3 rt1 rt2
        have hl8 := hl7.below hb
        have ra8 := rd_grown ra7 hb
        have HCN := Lib.hid hcnt; have HNX := Lib.hid hnext; have HNN := Lib.hid hN
        have d1 : decide ((k : Int) < (n : Int)) = true := by simp; omega
        have d1' : decide (k < n) = true := by simp [hlt]
        have j1 : (0 : Int) ≤ (k : Int) := by omega
        have j2 : (k : Int) < (n : Int) := by omega
        have e1 : IntKind.i64.wrap ((k : Int) + 1) = (k : Int) + 1 := IntWalk.i64_in _ (by omega)
        have e3 : IntKind.i64.wrap ((s : Int) + (N : Int)) = (s : Int) + (N : Int) := IntWalk.i64_in _ (by omega)
        clear hr hlt hcnt hnext hN
        have hF := hl8
        (repeat unfold Loc at hF)
        by_cases hk3 : wk = 3
        · have hN1 : N = 1 := by rw [HNN.out]; unfold nW; rw [if_pos hk3]
          subst hk3 hN1
          go_wp2_with fail
          go_loopw [10, 13] (fun nv iv wr => ∃ (i : Nat) (v : Int), iv = .int .i64 i ∧ i ≤ m ∧ nv = .int .i64 v ∧ v = ((1 : Nat) : Int) - (((a.take i).filter (fun x => inE x ⟨q1, q2, q3, q4⟩)).length : Nat) ∧ Below w8.heap.size w8 wr) (fun _ iv _ => m - (intOf iv).toNat)
          case atStart => exact ⟨0, (1 : Nat), rfl, Nat.zero_le _, by rfl, by simp, Below.refl _ _⟩
          case round =>
            obtain ⟨i, v, rfl, hi, rfl, hv, hbi⟩ := hrel
            have hcl : ((a.take i).filter (fun x => inE x ⟨q1, q2, q3, q4⟩)).length ≤ m := Nat.le_trans (List.length_filter_le _ _) (by rw [List.length_take]; omega)
            have hv1 : -640 ≤ v ∧ v ≤ 16 := by omega
            have HV := Lib.hid hv
            by_cases him : i < m
            · obtain ⟨x, hx⟩ : ∃ x, a[i]? = some x := ⟨_, List.getElem?_eq_getElem (by rw [HM.out]; exact him)⟩
              have hfs := congrArg List.length (filt_snoc (fun x => inE x ⟨q1, q2, q3, q4⟩) hx)
              rw [List.length_append] at hfs
              obtain ⟨b2, off2, rfl, hbx, x0, x1, x2, -⟩ := en_cells (rd_grown ra8 hbi) hx
              have u0 : wr.cell? ⟨b, off + k * 4, none⟩ = some (.int .i64 q1) := (hbi.cell (p := ⟨b, off + k * 4, none⟩) hbb).trans f0
              have u1 : wr.cell? ⟨b, off + k * 4 + 1, none⟩ = some (.int .i64 q2) := (hbi.cell (p := ⟨b, off + k * 4 + 1, none⟩) hbb).trans f1
              have di1 : decide ((i : Int) < (m : Int)) = true := by simp; omega
              have di1' : decide (i < m) = true := by simp [him]
              have i1 : (0 : Int) ≤ (i : Int) := by omega
              have i2 : (i : Int) < (m : Int) := by omega
              have ei : IntKind.i64.wrap ((i : Int) + 1) = (i : Int) + 1 := IntWalk.i64_in _ (by omega)
              have ev : IntKind.i64.wrap (v - 1) = v - 1 := IntWalk.i64_in _ (by omega)
              clear hx him hv
              cases hc1 : (x.k == q1) with
              | false =>
                have hin : inE x ⟨q1, q2, q3, q4⟩ = false := by unfold inE; rw [decide_eq_false_iff_not]; rintro ⟨hc, -⟩; simp at hc1; exact hc1 hc.symm
                rw [hin, if_neg (by simp)] at hfs
                have hnv : v = ((1 : Nat) : Int) - (((a.take (i + 1)).filter (fun x => inE x ⟨q1, q2, q3, q4⟩)).length : Nat) := by rw [hfs]; simp only [List.length_nil, Nat.add_zero]; exact HV.out
                have HNV := Lib.hid hnv
                clear hfs hin hnv hcl
                go_wp2_with fail
                go_quiet (fail)
                go_wp2
                go_roundw
                case rel => exact ⟨i + 1, v, by go_num, by omega, rfl, HNV.out, below_drewN hbi _⟩
                case measure => simp [intOf]; omega
              | true =>
                have hk1 : q1 = x.k := by simp at hc1; exact hc1.symm
                by_cases hc2 : x.s ≤ q2
                · by_cases hc3 : q2 < x.e
                  · have hin : inE x ⟨q1, q2, q3, q4⟩ = true := by unfold inE; simp [hk1, hc2, hc3]
                    rw [hin, if_pos rfl] at hfs
                    have hnv : v - 1 = ((1 : Nat) : Int) - (((a.take (i + 1)).filter (fun x => inE x ⟨q1, q2, q3, q4⟩)).length : Nat) := by rw [hfs, HV.out]; simp; omega
                    have HNV := Lib.hid hnv
                    clear hfs hin hk1 hnv hcl
                    go_wp2_with fail
                    go_quiet (fail)
                    go_wp2
                    go_roundw
                    case rel => exact ⟨i + 1, v - 1, by go_num, by omega, rfl, HNV.out, below_drewN hbi _⟩
                    case measure => simp [intOf]; omega
                  · have hc3' : decide (q2 < x.e) = false := by simpa using hc3
                    have hin : inE x ⟨q1, q2, q3, q4⟩ = false := by unfold inE; simp [hc3]
                    rw [hin, if_neg (by simp)] at hfs
                    clear hk1
                    have hnv : v = ((1 : Nat) : Int) - (((a.take (i + 1)).filter (fun x => inE x ⟨q1, q2, q3, q4⟩)).length : Nat) := by rw [hfs]; simp only [List.length_nil, Nat.add_zero]; exact HV.out
                    have HNV := Lib.hid hnv
                    clear hfs hin hnv hcl
                    go_wp2_with fail
                    go_quiet (fail)
                    go_wp2
                    go_roundw
                    case rel => exact ⟨i + 1, v, by go_num, by omega, rfl, HNV.out, below_drewN hbi _⟩
                    case measure => simp [intOf]; omega
                · have hc2' : decide (x.s ≤ q2) = false := by simpa using hc2
                  have hin : inE x ⟨q1, q2, q3, q4⟩ = false := by unfold inE; simp [hc2]
                  rw [hin, if_neg (by simp)] at hfs
                  clear hk1
                  have hnv : v = ((1 : Nat) : Int) - (((a.take (i + 1)).filter (fun x => inE x ⟨q1, q2, q3, q4⟩)).length : Nat) := by rw [hfs]; simp only [List.length_nil, Nat.add_zero]; exact HV.out
                  have HNV := Lib.hid hnv
                  clear hfs hin hnv hcl
                  go_wp2_with fail
                  go_quiet (fail)
                  go_wp2
                  go_roundw
                  case rel => exact ⟨i + 1, v, by go_num, by omega, rfl, HNV.out, below_drewN hbi _⟩
                  case measure => simp [intOf]; omega
            · obtain rfl : i = m := by omega
              have di1 : decide ((i : Int) < (i : Int)) = false := by simp
              have di1' : decide (i < i) = false := by simp
              rw [List.take_of_length_le (by rw [HM.out]; exact Nat.le_refl _), HCN.out] at hv
              obtain rfl : v = 0 := by omega
              clear him hv HV hcl
              go_wp2
              go_roundw
              case rel => exact ⟨k + 1, s + (1 : Nat), by go_num, by omega, (by first | rfl | (congr 1)), HNX.out.symm, below_then hb hbi⟩
              case measure => simp [intOf]; omega
        · have hkd : (wk != 3) = true := by simp [hk3]
          have hwof := wof_ok HW.out hk3 rt1 rt2
          have hNl : (wspans wk ws we q2).length = N := by rw [HNN.out]; unfold nW; rw [if_neg hk3]
          have hof := fun W => slof_any wk ws we q2 wwe W
          rw [hwof] at hof
          have HOF := Lib.hid hof; have HNL := Lib.hid hNl
          clear hof hwof hNl hk3
          go_wp2_with fail
          obtain ⟨lE, hE, hR⟩ := Env.abs (w0 := w8) (Below.refl _ _) hl8
          (repeat unfold Loc at hR)
          have hRg : ∀ X, Env w8 lE X → X.cell? ⟨b, off + k * 4 + 1, none⟩ = some (.int .i64 q2) := fun X hX => (hX.1.cell (p := ⟨b, off + k * 4 + 1, none⟩) hbb).trans f1
          refine wp_region_held_drew (S := Env w8 lE) (by kernel_rfl) (by (first | assumption | exact Env.step (by assumption) (by assumption) | exact Env.old (by assumption) _ | exact Env.drew hE | exact hE | exact Env.drew (by assumption) | exact Env.drew (Env.old (by assumption) _) | ((repeat first | refine Env.far0 ?_ (by assumption) _ | refine Env.far1 ?_ (by assumption) _ | refine Env.farA ?_ (by assumption) _); assumption))) (fun hHeld => ?_)
          refine hTake 0 (by kernel_rfl) (by kernel_rfl) (by kernel_rfl) (by decide) (by assumption) ?_; (intro oi hoi; simp only [List.getElem?_toArray, List.getElem?_cons_zero] at hoi; obtain rfl := Option.some.inj hoi; clear hoi); refine ⟨rfl, ?_⟩; apply Exists.intro; refine ⟨?_, fun _ _ _ h => h, ?_⟩; (intro w hSw; (try dsimp only at hSw); go_simp; (try with_reducible rfl)); (try simp only [Act.put, List.setIfInBounds_toArray, List.set_cons_zero, List.set_cons_succ]); refine hTake 1 (by kernel_rfl) (by kernel_rfl) (by kernel_rfl) (by decide) (by assumption) ?_; (intro oi hoi; simp only [List.getElem?_toArray, List.getElem?_cons_succ, List.getElem?_cons_zero] at hoi; obtain rfl := Option.some.inj hoi; clear hoi); refine ⟨rfl, ?_⟩; apply Exists.intro; refine ⟨?_, fun _ _ _ h => h, ?_⟩; (intro w hSw; (try dsimp only at hSw); go_simp; (try with_reducible rfl)); (try simp only [Act.put, List.setIfInBounds_toArray, List.set_cons_zero, List.set_cons_succ]); refine hTake 2 (by kernel_rfl) (by kernel_rfl) (by kernel_rfl) (by decide) (by assumption) ?_; (intro oi hoi; simp only [List.getElem?_toArray, List.getElem?_cons_succ, List.getElem?_cons_zero] at hoi; obtain rfl := Option.some.inj hoi; clear hoi); refine ⟨rfl, ?_⟩; apply Exists.intro; refine ⟨?_, fun _ _ _ h => h, ?_⟩; (intro w hSw; (try dsimp only at hSw); go_simp; (try with_reducible rfl)); (try simp only [Act.put, List.setIfInBounds_toArray, List.set_cons_zero, List.set_cons_succ]); refine hTake 3 (by kernel_rfl) (by kernel_rfl) (by kernel_rfl) (by decide) (by assumption) ?_; (intro oi hoi; simp only [List.getElem?_toArray, List.getElem?_cons_succ, List.getElem?_cons_zero] at hoi; obtain rfl := Option.some.inj hoi; clear hoi); refine ⟨rfl, ?_⟩; apply Exists.intro; refine ⟨?_, fun _ _ _ h => h, ?_⟩; (intro w hSw; (try dsimp only at hSw); go_simp; (try with_reducible rfl)); (try simp only [Act.put, List.setIfInBounds_toArray, List.set_cons_zero, List.set_cons_succ]); refine hTake 4 (by kernel_rfl) (by kernel_rfl) (by kernel_rfl) (by decide) (by assumption) ?_; (intro oi hoi; simp only [List.getElem?_toArray, List.getElem?_cons_succ, List.getElem?_cons_zero] at hoi; obtain rfl := Option.some.inj hoi; clear hoi); refine ⟨rfl, ?_⟩; apply Exists.intro; refine ⟨?_, fun _ _ _ h => h, ?_⟩; (intro w hSw; (try dsimp only at hSw); go_simp; (try with_reducible rfl)); (try simp only [Act.put, List.setIfInBounds_toArray, List.set_cons_zero, List.set_cons_succ]); refine hTake 5 (by kernel_rfl) (by kernel_rfl) (by kernel_rfl) (by decide) (by assumption) ?_; (intro oi hoi; simp only [List.getElem?_toArray, List.getElem?_cons_succ, List.getElem?_cons_zero] at hoi; obtain rfl := Option.some.inj hoi; clear hoi); refine ⟨rfl, ?_⟩; apply Exists.intro; refine ⟨?_, fun _ _ _ h => h, ?_⟩; (intro w hSw; (try dsimp only at hSw); go_simp; (try with_reducible rfl)); (try simp only [Act.put, List.setIfInBounds_toArray, List.set_cons_zero, List.set_cons_succ]); refine hTake 6 (by kernel_rfl) (by kernel_rfl) (by kernel_rfl) (by decide) (by assumption) ?_; (intro oi hoi; simp only [List.getElem?_toArray, List.getElem?_cons_succ, List.getElem?_cons_zero] at hoi; obtain rfl := Option.some.inj hoi; clear hoi); refine ⟨rfl, ?_⟩; apply Exists.intro; refine ⟨?_, fun _ _ _ h => h, ?_⟩; (intro w hSw; (try dsimp only at hSw); go_simp; (try with_reducible rfl)); (try simp only [Act.put, List.setIfInBounds_toArray, List.set_cons_zero, List.set_cons_succ])
          refine hOnly 7 (by kernel_rfl) (by decide) ?_; (intro oi hoi; simp only [List.getElem?_toArray, List.getElem?_cons_succ, List.getElem?_cons_zero] at hoi; obtain rfl := Option.some.inj hoi; clear hoi); intro K hK; go_simp
          go_at_call 36
          refine (HOF.out _).mono ?_
          rintro r w9 ⟨v9, rfl, own9, hb9⟩
          obtain ⟨A9, c9, rfl, -⟩ := own_shape_n own9 HNL.out
          have hEhb9 := Env.step hb9 (by assumption); (try (have hqhb9 := (by with_reducible first | exact Loc.below hb9 (Loc.new (Loc.nil _) _ _) | exact Loc.below hb9 (Loc.drew (Loc.new (Loc.nil _) _ _)) | exact Loc.below hb9 (by assumption : Loc _ [_])); (repeat rw [World.size_drew] at hqhb9); (repeat rw [World.size_alloc] at hqhb9); have hrhb9 := hqhb9; (repeat unfold Loc at hrhb9)))
          (refine hK.out _ _ (by (first | assumption | exact Env.step (by assumption) (by assumption) | exact Env.old (by assumption) _ | exact Env.drew hE | exact hE | exact Env.drew (by assumption) | exact Env.drew (Env.old (by assumption) _) | ((repeat first | refine Env.far0 ?_ (by assumption) _ | refine Env.far1 ?_ (by assumption) _ | refine Env.farA ?_ (by assumption) _); assumption))) (fun hHeld => ?_); clear hK K; (try simp only [Act.put, List.setIfInBounds_toArray, List.set_cons_zero, List.set_cons_succ]))
          refine hTake 8 (by kernel_rfl) (by kernel_rfl) (by kernel_rfl) (by decide) (by assumption) ?_; (intro oi hoi; simp only [List.getElem?_toArray, List.getElem?_cons_succ, List.getElem?_cons_zero] at hoi; obtain rfl := Option.some.inj hoi; clear hoi); refine ⟨rfl, ?_⟩; apply Exists.intro; refine ⟨?_, fun _ _ _ h => h, ?_⟩; (intro w hSw; (try dsimp only at hSw); go_simp; (try with_reducible rfl)); (try simp only [Act.put, List.setIfInBounds_toArray, List.set_cons_zero, List.set_cons_succ]); refine hTake 9 (by kernel_rfl) (by kernel_rfl) (by kernel_rfl) (by decide) (by assumption) ?_; (intro oi hoi; simp only [List.getElem?_toArray, List.getElem?_cons_succ, List.getElem?_cons_zero] at hoi; obtain rfl := Option.some.inj hoi; clear hoi); refine ⟨rfl, ?_⟩; apply Exists.intro; refine ⟨?_, fun _ _ _ h => h, ?_⟩; (intro w hSw; (try dsimp only at hSw); go_simp; (try with_reducible rfl)); (try simp only [Act.put, List.setIfInBounds_toArray, List.set_cons_zero, List.set_cons_succ]); refine hTake 10 (by kernel_rfl) (by kernel_rfl) (by kernel_rfl) (by decide) (by assumption) ?_; (intro oi hoi; simp only [List.getElem?_toArray, List.getElem?_cons_succ, List.getElem?_cons_zero] at hoi; obtain rfl := Option.some.inj hoi; clear hoi); refine ⟨rfl, ?_⟩; apply Exists.intro; refine ⟨?_, fun _ _ _ h => h, ?_⟩; (intro w hSw; (try dsimp only at hSw); go_simp; (try with_reducible rfl)); (try simp only [Act.put, List.setIfInBounds_toArray, List.set_cons_zero, List.set_cons_succ]); refine hTake 11 (by kernel_rfl) (by kernel_rfl) (by kernel_rfl) (by decide) (by assumption) ?_; (intro oi hoi; simp only [List.getElem?_toArray, List.getElem?_cons_succ, List.getElem?_cons_zero] at hoi; obtain rfl := Option.some.inj hoi; clear hoi); refine ⟨rfl, ?_⟩; apply Exists.intro; refine ⟨?_, fun _ _ _ h => h, ?_⟩; (intro w hSw; (try dsimp only at hSw); go_simp; (try with_reducible rfl)); (try simp only [Act.put, List.setIfInBounds_toArray, List.set_cons_zero, List.set_cons_succ]); refine hTake 12 (by kernel_rfl) (by kernel_rfl) (by kernel_rfl) (by decide) (by assumption) ?_; (intro oi hoi; simp only [List.getElem?_toArray, List.getElem?_cons_succ, List.getElem?_cons_zero] at hoi; obtain rfl := Option.some.inj hoi; clear hoi); refine ⟨rfl, ?_⟩; apply Exists.intro; refine ⟨?_, fun _ _ _ h => h, ?_⟩; (intro w hSw; (try dsimp only at hSw); go_simp; (try with_reducible rfl)); (try simp only [Act.put, List.setIfInBounds_toArray, List.set_cons_zero, List.set_cons_succ])
          refine wpAnyH_done (by kernel_rfl) ?_ _
          have hb89 : Below w8.heap.size w8 w9 := hHeld.1
          have hb79 := below_then hb hb89
          have ra9 := rd_grown ra8 hb89
          have hbb9 : b < w9.heap.size := Nat.lt_of_lt_of_le hbb hb89.size
          have g0 : w9.cell? ⟨b, off + k * 4, none⟩ = some (.int .i64 q1) := (hb89.cell (p := ⟨b, off + k * 4, none⟩) hbb).trans f0
          have g1 : w9.cell? ⟨b, off + k * 4 + 1, none⟩ = some (.int .i64 q2) := (hb89.cell (p := ⟨b, off + k * 4 + 1, none⟩) hbb).trans f1
          clear hR hE hRg hF own9 hb9 hHeld f0 f1 f2 f3 hbb ra8 hl8 hb hb89
          go_wp2_with fail
          go_loopw [10, 13] (fun nv iv wr => ∃ (i : Nat) (v : Int), iv = .int .i64 i ∧ i ≤ m ∧ nv = .int .i64 v ∧ v = (N : Int) - (((a.take i).filter (fun x => inE x ⟨q1, q2, q3, q4⟩)).length : Nat) ∧ Below w9.heap.size w9 wr) (fun _ iv _ => m - (intOf iv).toNat)
          case atStart => exact ⟨0, N, rfl, Nat.zero_le _, by rfl, by simp, Below.refl _ _⟩
          case round =>
            obtain ⟨i, v, rfl, hi, rfl, hv, hbi⟩ := hrel
            have hcl : ((a.take i).filter (fun x => inE x ⟨q1, q2, q3, q4⟩)).length ≤ m := Nat.le_trans (List.length_filter_le _ _) (by rw [List.length_take]; omega)
            have hv1 : -640 ≤ v ∧ v ≤ 16 := by omega
            have HV := Lib.hid hv
            by_cases him : i < m
            · obtain ⟨x, hx⟩ : ∃ x, a[i]? = some x := ⟨_, List.getElem?_eq_getElem (by rw [HM.out]; exact him)⟩
              have hfs := congrArg List.length (filt_snoc (fun x => inE x ⟨q1, q2, q3, q4⟩) hx)
              rw [List.length_append] at hfs
              obtain ⟨b2, off2, rfl, hbx, x0, x1, x2, -⟩ := en_cells (rd_grown ra9 hbi) hx
              have u0 : wr.cell? ⟨b, off + k * 4, none⟩ = some (.int .i64 q1) := (hbi.cell (p := ⟨b, off + k * 4, none⟩) hbb9).trans g0
              have u1 : wr.cell? ⟨b, off + k * 4 + 1, none⟩ = some (.int .i64 q2) := (hbi.cell (p := ⟨b, off + k * 4 + 1, none⟩) hbb9).trans g1
              have di1 : decide ((i : Int) < (m : Int)) = true := by simp; omega
              have di1' : decide (i < m) = true := by simp [him]
              have i1 : (0 : Int) ≤ (i : Int) := by omega
              have i2 : (i : Int) < (m : Int) := by omega
              have ei : IntKind.i64.wrap ((i : Int) + 1) = (i : Int) + 1 := IntWalk.i64_in _ (by omega)
              have ev : IntKind.i64.wrap (v - 1) = v - 1 := IntWalk.i64_in _ (by omega)
              clear hx him hv
              cases hc1 : (x.k == q1) with
              | false =>
                have hin : inE x ⟨q1, q2, q3, q4⟩ = false := by unfold inE; rw [decide_eq_false_iff_not]; rintro ⟨hc, -⟩; simp at hc1; exact hc1 hc.symm
                rw [hin, if_neg (by simp)] at hfs
                have hnv : v = (N : Int) - (((a.take (i + 1)).filter (fun x => inE x ⟨q1, q2, q3, q4⟩)).length : Nat) := by rw [hfs]; simp only [List.length_nil, Nat.add_zero]; exact HV.out
                have HNV := Lib.hid hnv
                clear hfs hin hnv hcl
                go_wp2_with fail
                go_quiet (fail)
                go_wp2
                go_roundw
                case rel => exact ⟨i + 1, v, by go_num, by omega, rfl, HNV.out, below_drewN hbi _⟩
                case measure => simp [intOf]; omega
              | true =>
                have hk1 : q1 = x.k := by simp at hc1; exact hc1.symm
                by_cases hc2 : x.s ≤ q2
                · by_cases hc3 : q2 < x.e
                  · have hin : inE x ⟨q1, q2, q3, q4⟩ = true := by unfold inE; simp [hk1, hc2, hc3]
                    rw [hin, if_pos rfl] at hfs
                    have hnv : v - 1 = (N : Int) - (((a.take (i + 1)).filter (fun x => inE x ⟨q1, q2, q3, q4⟩)).length : Nat) := by rw [hfs, HV.out]; simp; omega
                    have HNV := Lib.hid hnv
                    clear hfs hin hk1 hnv hcl
                    go_wp2_with fail
                    go_quiet (fail)
                    go_wp2
                    go_roundw
                    case rel => exact ⟨i + 1, v - 1, by go_num, by omega, rfl, HNV.out, below_drewN hbi _⟩
                    case measure => simp [intOf]; omega
                  · have hc3' : decide (q2 < x.e) = false := by simpa using hc3
                    have hin : inE x ⟨q1, q2, q3, q4⟩ = false := by unfold inE; simp [hc3]
                    rw [hin, if_neg (by simp)] at hfs
                    clear hk1
                    have hnv : v = (N : Int) - (((a.take (i + 1)).filter (fun x => inE x ⟨q1, q2, q3, q4⟩)).length : Nat) := by rw [hfs]; simp only [List.length_nil, Nat.add_zero]; exact HV.out
                    have HNV := Lib.hid hnv
                    clear hfs hin hnv hcl
                    go_wp2_with fail
                    go_quiet (fail)
                    go_wp2
                    go_roundw
                    case rel => exact ⟨i + 1, v, by go_num, by omega, rfl, HNV.out, below_drewN hbi _⟩
                    case measure => simp [intOf]; omega
                · have hc2' : decide (x.s ≤ q2) = false := by simpa using hc2
                  have hin : inE x ⟨q1, q2, q3, q4⟩ = false := by unfold inE; simp [hc2]
                  rw [hin, if_neg (by simp)] at hfs
                  clear hk1
                  have hnv : v = (N : Int) - (((a.take (i + 1)).filter (fun x => inE x ⟨q1, q2, q3, q4⟩)).length : Nat) := by rw [hfs]; simp only [List.length_nil, Nat.add_zero]; exact HV.out
                  have HNV := Lib.hid hnv
                  clear hfs hin hnv hcl
                  go_wp2_with fail
                  go_quiet (fail)
                  go_wp2
                  go_roundw
                  case rel => exact ⟨i + 1, v, by go_num, by omega, rfl, HNV.out, below_drewN hbi _⟩
                  case measure => simp [intOf]; omega
            · obtain rfl : i = m := by omega
              have di1 : decide ((i : Int) < (i : Int)) = false := by simp
              have di1' : decide (i < i) = false := by simp
              rw [List.take_of_length_le (by rw [HM.out]; exact Nat.le_refl _), HCN.out] at hv
              obtain rfl : v = 0 := by omega
              clear him hv HV hcl
              go_wp2
              go_roundw
              case rel => exact ⟨k + 1, s + N, by go_num, by omega, (by first | rfl | (congr 1)), HNX.out.symm, below_then hb79 hbi⟩
              case measure => simp [intOf]; omega
      · obtain rfl : k = n := by omega
        have d1 : decide ((k : Int) < (k : Int)) = false := by simp
        have d1' : decide (k < k) = false := by simp
        rw [List.take_of_length_le (by rw [HN.out]; exact Nat.le_refl _)] at HSK
        obtain rfl : s = S := by rw [HSK.out, HS.out]
        clear hlt
        go_wp2_with fail
        go_loopw [8, 14] (fun wv iv wr => ∃ (i : Nat) (t : Int), iv = .int .i64 i ∧ i ≤ m ∧ wv = .int .i64 t ∧ t = (s : Int) - cntE (a.take i) ∧ Below w8.heap.size w8 wr) (fun _ iv _ => m - (intOf iv).toNat)
        case atStart => exact ⟨0, s, rfl, Nat.zero_le _, rfl, by simp [cntE], Below.refl _ _⟩
        case round =>
          obtain ⟨i, t, rfl, hi, rfl, ht, hbi⟩ := hrel
          have hcl := cntE_le (l := a) (fun x hx => by have := HA.out.pos x hx; omega) i
          have htot := HA.out.tot
          rw [← HS.out] at htot
          have HT := Lib.hid ht
          have ht1 : 0 ≤ t ∧ t ≤ s := by omega
          by_cases him : i < m
          · obtain ⟨x, hx⟩ : ∃ x, a[i]? = some x := ⟨_, List.getElem?_eq_getElem (by rw [HM.out]; exact him)⟩
            have hct := cntE_take hx
            obtain ⟨p1, p2, p3, p4⟩ := HA.out.pos x (List.mem_of_getElem? hx)
            obtain ⟨b, off, rfl, hbb, f0, f1, f2, f3, f4, f5, f6, f7, f8, f9, f10⟩ := en_cells (rd_grown ra7 (below_then hb hbi)) hx
            have d1 : decide ((i : Int) < (m : Int)) = true := by simp; omega
            have d1' : decide (i < m) = true := by simp [him]
            have j1 : (0 : Int) ≤ (i : Int) := by omega
            have j2 : (i : Int) < (m : Int) := by omega
            have e1 : IntKind.i64.wrap ((i : Int) + 1) = (i : Int) + 1 := IntWalk.i64_in _ (by omega)
            have e2 : IntKind.i64.wrap (x.c1 + x.c2) = x.c1 + x.c2 := IntWalk.i64_in _ (by omega)
            have e3 : IntKind.i64.wrap (t - (x.c1 + x.c2)) = t - (x.c1 + x.c2) := IntWalk.i64_in _ (by omega)
            have hnt : t - (x.c1 + x.c2) = (s : Int) - cntE (a.take (i + 1)) := by rw [hct, HT.out]; omega
            have HNT := Lib.hid hnt
            clear hx him hct ht hcl htot hnt
            go_wp2_with fail
            go_quiet (fail)
            go_wp2
            go_roundw
            case rel => exact ⟨i + 1, t - (x.c1 + x.c2), by go_num, by omega, rfl, HNT.out, below_drewN hbi _⟩
            case measure => simp [intOf]; omega
          · obtain rfl : i = m := by omega
            have d1 : decide ((i : Int) < (i : Int)) = false := by simp
            have d1' : decide (i < i) = false := by simp
            rw [List.take_of_length_le (by rw [HM.out]; exact Nat.le_refl _)] at ht
            obtain rfl : t = 0 := by omega
            clear him ht hcl htot HT
            go_wp2
            go_ret
            exact ⟨rfl, below_then hb07 (below_then hb hbi)⟩
end Go.Proofs.Ytbbdepeifdbbdaa
