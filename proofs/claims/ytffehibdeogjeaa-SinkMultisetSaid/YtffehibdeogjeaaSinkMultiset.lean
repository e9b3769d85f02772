/- The walk of SinkMultiset: the order in which messages are taken does not matter; printed by wip/gen_multiset.py. No condition. -/
import Derived.Test.YtffehibdeogjeaaSinkSt
import Derived.Test.YtffehibdeogjeaaSinkSorts
import Derived.Deep.DeepCutAuto
import Derived.Deep.CutBlock
namespace Go.Proofs.Ytffehibdeogjeaa
open Go.RowKit Go.ChangeShapes Go.WideShapes Go.ChangeAt Go.Deep

set_option maxHeartbeats 32000000 in
set_option maxRecDepth 100000 in
theorem sinkMultiset_walk {w : World} (A : Option Addr) (c : Nat) (l : List Ms) (_lc : l.length ≤ c) (_lm : c ≤ maxLen) (_lw : ∀ x ∈ l, msT x) (lr : Rd menc 10 w w.heap.size A l) (_ln : A = none → c = 0) :
    Calls Try.prog 19 #[.slice A l.length c] w fun r w' => r = .returned (.bool true) ∧ Below w.heap.size w w' := by
  obtain ⟨n, hn⟩ : ∃ n, l.length = n := ⟨_, rfl⟩
  rw [hn]
  have HLN := Lib.hid hn
  have hnew : ∀ W, Calls Try.prog 44 #[.bool false] W fun r w' => r = .returned (.agg #[.int .u8 6, .int .i64 0, .int .i64 0, .slice none 0 0, .slice none 0 0, .slice none 0 0, .slice none 0 0, .slice none 0 0, .slice none 0 0]) ∧ Below W.heap.size W w' := fun W => new34_any false W
  have HNEW := Lib.hid hnew
  clear hn hnew _lc _lm _ln _lw
  by_cases h40 : 40 < n
  · have d1 : decide ((40 : Int) < (n : Int)) = true := by simp; omega
    have d1' : decide (40 < n) = true := by simp [h40]
    go_enter Try.func19, Try.ntmps19
    go_wp2_with fail
    go_at_call 46
    refine (alive34_any _).mono ?_
    rintro r w2 ⟨rfl, hb2⟩
    go_wp2
    go_ret
    exact ⟨rfl, hb2⟩
  · have d1 : decide ((40 : Int) < (n : Int)) = false := by simp; omega
    have d1' : decide (40 < n) = false := by simp; omega
    go_enter Try.func19, Try.ntmps19
    go_wp2_with fail
    go_at_call 46
    refine (alive34_any _).mono ?_
    rintro r w1 ⟨rfl, hb1⟩
    go_wp2_with fail
    go_at_call 44
    refine (HNEW.out _).mono ?_
    rintro r w2 ⟨rfl, hb2⟩
    go_wp2_with fail
    go_at_call 44
    refine (HNEW.out _).mono ?_
    rintro r w3 ⟨rfl, hb3⟩
    have hb03 : Below w.heap.size w w3 := below_then (below_then hb1 hb2) hb3
    clear hb1 hb2 hb3
    go_upto_region 5 with (fail)
    obtain ⟨wB, hwB, hlB, hbB, hsB⟩ : ∃ wB, wB = (w3.alloc (.cells #[.int .u8 6, .int .i64 0, .int .i64 0, .slice none 0 0, .slice none 0 0, .slice none 0 0, .slice none 0 0, .slice none 0 0, .slice none 0 0] 67)).alloc (.cells #[.int .u8 6, .int .i64 0, .int .i64 0, .slice none 0 0, .slice none 0 0, .slice none 0 0, .slice none 0 0, .slice none 0 0, .slice none 0 0] 67) ∧ Loc wB [(w3.heap.size, [.int .u8 6, .int .i64 0, .int .i64 0, .slice none 0 0, .slice none 0 0, .slice none 0 0, .slice none 0 0, .slice none 0 0, .slice none 0 0]), (w3.heap.size + 1, [.int .u8 6, .int .i64 0, .int .i64 0, .slice none 0 0, .slice none 0 0, .slice none 0 0, .slice none 0 0, .slice none 0 0, .slice none 0 0])] ∧ Below w.heap.size w wB ∧ wB.heap.size = w3.heap.size + 2 := by
      refine ⟨_, rfl, ?_, below_new (below_new hb03 _) _, by rw [World.size_alloc, World.size_alloc]⟩
      have g := ((Loc.nil w3).new [.int .u8 6, .int .i64 0, .int .i64 0, .slice none 0 0, .slice none 0 0, .slice none 0 0, .slice none 0 0, .slice none 0 0, .slice none 0 0] 67).new [.int .u8 6, .int .i64 0, .int .i64 0, .slice none 0 0, .slice none 0 0, .slice none 0 0, .slice none 0 0, .slice none 0 0, .slice none 0 0] 67
      (repeat rw [World.size_alloc] at g)
      obtain ⟨a1, a2, a3, e1, e2, e3, -⟩ := g
      exact ⟨e1, e2, e3, a1, a2, a3, trivial⟩
    rw [← hwB]
    have h03 := hb03.size
    obtain ⟨pa, hpa⟩ : ∃ pa, w3.heap.size = pa := ⟨_, rfl⟩
    obtain ⟨BB, hBB⟩ : ∃ BB, BB = wB.heap.size := ⟨_, rfl⟩
    have hpB : BB = pa + 2 := by rw [hBB, hsB, hpa]
    rw [hpa] at h03 hlB ⊢
    have hst0 : MSt l 0 0 pa (pa + 1) BB w (.slice none 0 0) wB := ⟨none, none, none, none, none, none, none, none, none, none, none, none, 0, 0, 0, 0, 0, 0, 0, 0, 0, 0, 0, 0, 0, 0, rfl, rfl, Nat.le_refl _, Nat.le_refl _, Own.nil _ _ _, hlB, rd_emp, rd_emp, ⟨fun _ => rfl, fun _ => rfl, fun _ => rfl, fun _ => rfl, fun _ => rfl, fun _ => rfl⟩, ⟨fun _ => rfl, fun _ => rfl, fun _ => rfl, fun _ => rfl, fun _ => rfl, fun _ => rfl⟩, fun _ h => (by cases h), fun _ h => (by cases h), fun _ _ h => (by cases h), fun _ _ h => (by cases h), hbB, by rw [hBB]; exact Nat.le_refl _⟩
    clear hwB hb03 hsB hpa hBB hlB hbB
    go_wp2_with fail
    go_loopw [6, 7] (fun wv iv wr => ∃ k : Nat, iv = .int .i64 k ∧ k ≤ n ∧ MSt l k k pa (pa + 1) BB w wv wr) (fun _ iv _ => n - (intOf iv).toNat)
    case atStart => exact ⟨0, rfl, Nat.zero_le _, hst0⟩
    case round =>
      obtain ⟨k, rfl, hk, hst⟩ := hrel
      clear hst0
      by_cases hlt : k < n
      · obtain ⟨m, hm⟩ : ∃ m, l[k]? = some m := ⟨_, List.getElem?_eq_getElem (by rw [HLN.out]; exact hlt)⟩
        obtain ⟨q, hq⟩ : ∃ q, l[n - 1 - k]? = some q := ⟨_, List.getElem?_eq_getElem (by rw [HLN.out]; omega)⟩
        have hsx := rowsOf_snoc hm
        have hsy := rowsOf_snoc (l := l.reverse) (k := k) (m := q) (by rw [rev_at HLN.out hlt]; exact hq)
        obtain ⟨b, off, hA, hbb, f0, f1, f2, f3, f4, f5, f6, f7, f8, f9⟩ := ms_cells lr hm
        obtain ⟨b', off', hA', hbb', g0, g1, g2, g3, g4, g5, g6, g7, g8, g9⟩ := ms_cells lr hq
        rw [hA] at hA'
        simp only [Option.some.injEq, Addr.mk.injEq, and_true] at hA'
        obtain ⟨rfl, rfl⟩ := hA'
        subst hA
        obtain ⟨j, hj⟩ : ∃ j, j = n - 1 - k := ⟨_, rfl⟩
        have hj0 : j < n := by omega
        rw [← hj] at g0 g1 g2 g3 g4 g5 g6 g7 g8 g9
        have hMC : ∀ X, Below w.heap.size w X → X.cell? ⟨b, off + k * 10, none⟩ = some (.int .u8 m.kind) ∧ X.cell? ⟨b, off + k * 10 + 1, none⟩ = some (.int .i64 m.k) ∧ X.cell? ⟨b, off + k * 10 + 2, none⟩ = some (.int .i64 m.t) ∧ X.cell? ⟨b, off + k * 10 + 3, none⟩ = some (.int .i64 m.v) ∧ X.cell? ⟨b, off + k * 10 + 4, none⟩ = some (.int .i64 m.time) ∧ X.cell? ⟨b, off + k * 10 + 5, none⟩ = some (.int .i64 m.rk) ∧ X.cell? ⟨b, off + k * 10 + 6, none⟩ = some (.int .i64 m.rs) ∧ X.cell? ⟨b, off + k * 10 + 7, none⟩ = some (.int .i64 m.re) ∧ X.cell? ⟨b, off + k * 10 + 8, none⟩ = some (.int .i64 m.ra) ∧ X.cell? ⟨b, off + k * 10 + 9, none⟩ = some (.int .i64 m.rb) := fun X hX => ⟨(hX.cell (p := ⟨b, off + k * 10, none⟩) hbb).trans f0, (hX.cell (p := ⟨b, off + k * 10 + 1, none⟩) hbb).trans f1, (hX.cell (p := ⟨b, off + k * 10 + 2, none⟩) hbb).trans f2, (hX.cell (p := ⟨b, off + k * 10 + 3, none⟩) hbb).trans f3, (hX.cell (p := ⟨b, off + k * 10 + 4, none⟩) hbb).trans f4, (hX.cell (p := ⟨b, off + k * 10 + 5, none⟩) hbb).trans f5, (hX.cell (p := ⟨b, off + k * 10 + 6, none⟩) hbb).trans f6, (hX.cell (p := ⟨b, off + k * 10 + 7, none⟩) hbb).trans f7, (hX.cell (p := ⟨b, off + k * 10 + 8, none⟩) hbb).trans f8, (hX.cell (p := ⟨b, off + k * 10 + 9, none⟩) hbb).trans f9⟩
        have hQC : ∀ X, Below w.heap.size w X → X.cell? ⟨b, off + j * 10, none⟩ = some (.int .u8 q.kind) ∧ X.cell? ⟨b, off + j * 10 + 1, none⟩ = some (.int .i64 q.k) ∧ X.cell? ⟨b, off + j * 10 + 2, none⟩ = some (.int .i64 q.t) ∧ X.cell? ⟨b, off + j * 10 + 3, none⟩ = some (.int .i64 q.v) ∧ X.cell? ⟨b, off + j * 10 + 4, none⟩ = some (.int .i64 q.time) ∧ X.cell? ⟨b, off + j * 10 + 5, none⟩ = some (.int .i64 q.rk) ∧ X.cell? ⟨b, off + j * 10 + 6, none⟩ = some (.int .i64 q.rs) ∧ X.cell? ⟨b, off + j * 10 + 7, none⟩ = some (.int .i64 q.re) ∧ X.cell? ⟨b, off + j * 10 + 8, none⟩ = some (.int .i64 q.ra) ∧ X.cell? ⟨b, off + j * 10 + 9, none⟩ = some (.int .i64 q.rb) := fun X hX => ⟨(hX.cell (p := ⟨b, off + j * 10, none⟩) hbb).trans g0, (hX.cell (p := ⟨b, off + j * 10 + 1, none⟩) hbb).trans g1, (hX.cell (p := ⟨b, off + j * 10 + 2, none⟩) hbb).trans g2, (hX.cell (p := ⟨b, off + j * 10 + 3, none⟩) hbb).trans g3, (hX.cell (p := ⟨b, off + j * 10 + 4, none⟩) hbb).trans g4, (hX.cell (p := ⟨b, off + j * 10 + 5, none⟩) hbb).trans g5, (hX.cell (p := ⟨b, off + j * 10 + 6, none⟩) hbb).trans g6, (hX.cell (p := ⟨b, off + j * 10 + 7, none⟩) hbb).trans g7, (hX.cell (p := ⟨b, off + j * 10 + 8, none⟩) hbb).trans g8, (hX.cell (p := ⟨b, off + j * 10 + 9, none⟩) hbb).trans g9⟩
        have HMC := Lib.hid hMC; have HQC := Lib.hid hQC; have HSX := Lib.hid hsx; have HSY := Lib.hid hsy
        have e2 : IntKind.i64.wrap ((n : Int) - 1) = (n : Int) - 1 := IntWalk.i64_in _ (by omega)
        have e4 : IntKind.i64.wrap ((n : Int) - 1 - (k : Int)) = (j : Int) := by rw [IntWalk.i64_in _ (by omega)]; omega
        have d5 : decide ((k : Int) < (n : Int)) = true := by simp; omega
        have d5' : decide (k < n) = true := by simp [hlt]
        have i1 : (0 : Int) ≤ (k : Int) := by omega
        have i2 : (k : Int) < (n : Int) := by omega
        have i3 : (0 : Int) ≤ (j : Int) := by omega
        have i4 : (j : Int) < (n : Int) := by omega
        have e1 : IntKind.i64.wrap ((k : Int) + 1) = (k : Int) + 1 := IntWalk.i64_in _ (by omega)
        have hkn : k < n := hlt
        have HST := Lib.hid hst
        clear hm hq hsx hsy hj hlt hMC hQC hst lr f0 f1 f2 f3 f4 f5 f6 f7 f8 f9 g0 g1 g2 g3 g4 g5 g6 g7 g8 g9
        go_upto_block 1 with fail
        refine wp_block ?_
        refine wp_seq_k (fun K1 hK1 => ?_)
        go_cut [6] (fun v6 wx => MSt l (k + 1) k pa (pa + 1) BB w v6 wx)
        case first =>
          obtain ⟨P, M, S, E, R, L, P', M', S', E', R', L', cp, cm, cs, ce, cr, cl, cp', cm', cs', ce', cr', cl', nx, ny, hnx, hny, hxk, hyk, hown, hl, hra, hrb, hza, hzb, hfa, hfb, hpa, hpb, hb, hsr⟩ := HST.out
          obtain ⟨X, hX⟩ : ∃ X, X = rowsOf (l.take k) := ⟨_, rfl⟩
          obtain ⟨Y, hY⟩ : ∃ Y, Y = rowsOf (l.reverse.take k) := ⟨_, rfl⟩
          rw [← hX] at hnx hown hra
          rw [← hY] at hny hrb
          have hXo : ∀ x ∈ X, isrow x.s x.e = true := by rw [hX]; exact rowsOf_ok _
          have hYo : ∀ x ∈ Y, isrow x.s x.e = true := by rw [hY]; exact rowsOf_ok _
          obtain ⟨Aw, cw, rfl, -, zw⟩ := own_shape_z hown hnx
          have hmc := HMC.out _ hb
          obtain ⟨f0, f1, f2, f3, f4, f5, f6, f7, f8, f9⟩ := hmc
          have hpw : pa + 1 < wr.heap.size := by omega
          have HX := Lib.hid hX; have HY := Lib.hid hY; have HNX := Lib.hid hnx; have HNY := Lib.hid hny; have HXO := Lib.hid hXo; have HYO := Lib.hid hYo; have HZA := Lib.hid hza; have HZB := Lib.hid hzb; have HZW := Lib.hid zw; have HFA := Lib.hid hfa; have HFB := Lib.hid hfb; have HPA := Lib.hid hpa; have HPB := Lib.hid hpb
          clear hX hY hnx hny hXo hYo hza hzb zw hfa hfb hpa hpb
          have hl0 := hl; have hbr := Nat.lt_of_lt_of_le hbb hb.size
          by_cases him : isRow m = true
          · have hta := fun W (g : Rd wenc 5 W W.heap.size R X) => take6_yes (m := m) HXO.out HNX.out (by omega) him HZA.out W g
            have HTA := Lib.hid hta; have HIM := Lib.hid him
            clear hta him
            go_upto_region 9 with fail
            go_cut [8, 9] (fun v8 v9 wx => TkR 6 (X ++ [mrow m]) (nx + 1) 0 wr v8 v9 wx)
            case first =>
              obtain ⟨lE, hE, hRR⟩ := Env.abs (w0 := wr) (Below.refl _ _) hl
              (repeat unfold Loc at hRR)
              have hRg : ∀ X, Env wr lE X → X.cell? ⟨b, off + k * 10, none⟩ = some (.int .u8 m.kind) ∧ X.cell? ⟨b, off + k * 10 + 1, none⟩ = some (.int .i64 m.k) ∧ X.cell? ⟨b, off + k * 10 + 2, none⟩ = some (.int .i64 m.t) ∧ X.cell? ⟨b, off + k * 10 + 3, none⟩ = some (.int .i64 m.v) ∧ X.cell? ⟨b, off + k * 10 + 4, none⟩ = some (.int .i64 m.time) ∧ X.cell? ⟨b, off + k * 10 + 5, none⟩ = some (.int .i64 m.rk) ∧ X.cell? ⟨b, off + k * 10 + 6, none⟩ = some (.int .i64 m.rs) ∧ X.cell? ⟨b, off + k * 10 + 7, none⟩ = some (.int .i64 m.re) ∧ X.cell? ⟨b, off + k * 10 + 8, none⟩ = some (.int .i64 m.ra) ∧ X.cell? ⟨b, off + k * 10 + 9, none⟩ = some (.int .i64 m.rb) := fun X hX => ⟨(hX.1.cell (p := ⟨b, off + k * 10, none⟩) hbr).trans f0, (hX.1.cell (p := ⟨b, off + k * 10 + 1, none⟩) hbr).trans f1, (hX.1.cell (p := ⟨b, off + k * 10 + 2, none⟩) hbr).trans f2, (hX.1.cell (p := ⟨b, off + k * 10 + 3, none⟩) hbr).trans f3, (hX.1.cell (p := ⟨b, off + k * 10 + 4, none⟩) hbr).trans f4, (hX.1.cell (p := ⟨b, off + k * 10 + 5, none⟩) hbr).trans f5, (hX.1.cell (p := ⟨b, off + k * 10 + 6, none⟩) hbr).trans f6, (hX.1.cell (p := ⟨b, off + k * 10 + 7, none⟩) hbr).trans f7, (hX.1.cell (p := ⟨b, off + k * 10 + 8, none⟩) hbr).trans f8, (hX.1.cell (p := ⟨b, off + k * 10 + 9, none⟩) hbr).trans f9⟩
              refine wp_region_held_drew (S := Env wr lE) (by kernel_rfl) (by (first | assumption | exact Env.step (by assumption) (by assumption) | exact Env.old (by assumption) _ | exact Env.drew hE | exact hE | exact Env.drew (by assumption) | exact Env.drew (Env.old (by assumption) _) | ((repeat first | refine Env.far0 ?_ (by assumption) _ | refine Env.far1 ?_ (by assumption) _ | refine Env.farA ?_ (by assumption) _); assumption))) (fun hHeld => ?_)
              refine hTake 0 (by kernel_rfl) (by kernel_rfl) (by kernel_rfl) (by decide) (by assumption) ?_; (intro oi hoi; simp only [List.getElem?_toArray, List.getElem?_cons_zero] at hoi; obtain rfl := Option.some.inj hoi; clear hoi); refine ⟨rfl, ?_⟩; apply Exists.intro; refine ⟨?_, fun _ _ _ h => h, ?_⟩; (intro w hSw; (try dsimp only at hSw); go_simp; (try with_reducible rfl)); (try simp only [Act.put, List.setIfInBounds_toArray, List.set_cons_zero, List.set_cons_succ]); refine hTake 1 (by kernel_rfl) (by kernel_rfl) (by kernel_rfl) (by decide) (by assumption) ?_; (intro oi hoi; simp only [List.getElem?_toArray, List.getElem?_cons_succ, List.getElem?_cons_zero] at hoi; obtain rfl := Option.some.inj hoi; clear hoi); refine ⟨rfl, ?_⟩; apply Exists.intro; refine ⟨?_, fun _ _ _ h => h, ?_⟩; (intro w hSw; (try dsimp only at hSw); go_simp; (try with_reducible rfl)); (try simp only [Act.put, List.setIfInBounds_toArray, List.set_cons_zero, List.set_cons_succ]); refine hTake 2 (by kernel_rfl) (by kernel_rfl) (by kernel_rfl) (by decide) (by assumption) ?_; (intro oi hoi; simp only [List.getElem?_toArray, List.getElem?_cons_succ, List.getElem?_cons_zero] at hoi; obtain rfl := Option.some.inj hoi; clear hoi); refine ⟨rfl, ?_⟩; apply Exists.intro; refine ⟨?_, fun _ _ _ h => h, ?_⟩; (intro w hSw; (try dsimp only at hSw); go_simp; (try with_reducible rfl)); (try simp only [Act.put, List.setIfInBounds_toArray, List.set_cons_zero, List.set_cons_succ]); refine hTake 3 (by kernel_rfl) (by kernel_rfl) (by kernel_rfl) (by decide) (by assumption) ?_; (intro oi hoi; simp only [List.getElem?_toArray, List.getElem?_cons_succ, List.getElem?_cons_zero] at hoi; obtain rfl := Option.some.inj hoi; clear hoi); refine ⟨rfl, ?_⟩; apply Exists.intro; refine ⟨?_, fun _ _ _ h => h, ?_⟩; (intro w hSw; (try dsimp only at hSw); go_simp; (try with_reducible rfl)); (try simp only [Act.put, List.setIfInBounds_toArray, List.set_cons_zero, List.set_cons_succ]); refine hTake 4 (by kernel_rfl) (by kernel_rfl) (by kernel_rfl) (by decide) (by assumption) ?_; (intro oi hoi; simp only [List.getElem?_toArray, List.getElem?_cons_succ, List.getElem?_cons_zero] at hoi; obtain rfl := Option.some.inj hoi; clear hoi); refine ⟨rfl, ?_⟩; apply Exists.intro; refine ⟨?_, fun _ _ _ h => h, ?_⟩; (intro w hSw; (try dsimp only at hSw); go_simp; (try with_reducible rfl)); (try simp only [Act.put, List.setIfInBounds_toArray, List.set_cons_zero, List.set_cons_succ])
              refine wpAnyH_ready (rs := [5, 9]) (by kernel_rfl) (by simp) ?_
              refine hCons 5 (by decide) ?_ (hCons 9 (by decide) ?_ AllReadyH.nil)
              · (intro oi hoi; simp only [List.getElem?_toArray, List.getElem?_cons_succ, List.getElem?_cons_zero] at hoi; obtain rfl := Option.some.inj hoi; clear hoi); intro K hK
                go_simp
                go_at_call 41
                refine (HTA.out wr.drew (Rd.drew hra)).mono ?_
                rintro r w5 ⟨P2, M2, S2, E2, R2, L2, gp, gm, gs, ge, gr, gl, rfl, hr2, hz2, hf2, hb5⟩
                have hEhb5 := Env.step hb5 (by assumption); (try (have hqhb5 := (by with_reducible first | exact Loc.below hb5 (Loc.new (Loc.nil _) _ _) | exact Loc.below hb5 (Loc.drew (Loc.new (Loc.nil _) _ _)) | exact Loc.below hb5 (by assumption : Loc _ [_])); (repeat rw [World.size_drew] at hqhb5); (repeat rw [World.size_alloc] at hqhb5); have hrhb5 := hqhb5; (repeat unfold Loc at hrhb5)))
                (refine hK.out _ _ (by (first | assumption | exact Env.step (by assumption) (by assumption) | exact Env.old (by assumption) _ | exact Env.drew hE | exact hE | exact Env.drew (by assumption) | exact Env.drew (Env.old (by assumption) _) | ((repeat first | refine Env.far0 ?_ (by assumption) _ | refine Env.far1 ?_ (by assumption) _ | refine Env.farA ?_ (by assumption) _); assumption))) (fun hHeld => ?_); clear hK K; (try simp only [Act.put, List.setIfInBounds_toArray, List.set_cons_zero, List.set_cons_succ]))
                refine hTake 6 (by kernel_rfl) (by kernel_rfl) (by kernel_rfl) (by decide) (by assumption) ?_; (intro oi hoi; simp only [List.getElem?_toArray, List.getElem?_cons_succ, List.getElem?_cons_zero] at hoi; obtain rfl := Option.some.inj hoi; clear hoi); refine ⟨rfl, ?_⟩; apply Exists.intro; refine ⟨?_, fun _ _ _ h => h, ?_⟩; (intro w hSw; (try dsimp only at hSw); go_simp; (try with_reducible rfl)); (try simp only [Act.put, List.setIfInBounds_toArray, List.set_cons_zero, List.set_cons_succ]); refine hTake 7 (by kernel_rfl) (by kernel_rfl) (by kernel_rfl) (by decide) (by assumption) ?_; (intro oi hoi; simp only [List.getElem?_toArray, List.getElem?_cons_succ, List.getElem?_cons_zero] at hoi; obtain rfl := Option.some.inj hoi; clear hoi); refine ⟨rfl, ?_⟩; apply Exists.intro; refine ⟨?_, fun _ _ _ h => h, ?_⟩; (intro w hSw; (try dsimp only at hSw); go_simp; (try with_reducible rfl)); (try simp only [Act.put, List.setIfInBounds_toArray, List.set_cons_zero, List.set_cons_succ]); refine hTake 8 (by kernel_rfl) (by kernel_rfl) (by kernel_rfl) (by decide) (by assumption) ?_; (intro oi hoi; simp only [List.getElem?_toArray, List.getElem?_cons_succ, List.getElem?_cons_zero] at hoi; obtain rfl := Option.some.inj hoi; clear hoi); refine ⟨rfl, ?_⟩; apply Exists.intro; refine ⟨?_, fun _ _ _ h => h, ?_⟩; (intro w hSw; (try dsimp only at hSw); go_simp; (try with_reducible rfl)); (try simp only [Act.put, List.setIfInBounds_toArray, List.set_cons_zero, List.set_cons_succ])
                refine hOnly 9 (by kernel_rfl) (by decide) ?_; (intro oi hoi; simp only [List.getElem?_toArray, List.getElem?_cons_succ, List.getElem?_cons_zero] at hoi; obtain rfl := Option.some.inj hoi; clear hoi); intro K hK; go_simp
                (refine hK.out _ _ (by (first | assumption | exact Env.step (by assumption) (by assumption) | exact Env.old (by assumption) _ | exact Env.drew hE | exact hE | exact Env.drew (by assumption) | exact Env.drew (Env.old (by assumption) _) | ((repeat first | refine Env.far0 ?_ (by assumption) _ | refine Env.far1 ?_ (by assumption) _ | refine Env.farA ?_ (by assumption) _); assumption))) (fun hHeld => ?_); clear hK K; (try simp only [Act.put, List.setIfInBounds_toArray, List.set_cons_zero, List.set_cons_succ]))
                refine hOnly 10 (by kernel_rfl) (by decide) ?_; (intro oi hoi; simp only [List.getElem?_toArray, List.getElem?_cons_succ, List.getElem?_cons_zero] at hoi; obtain rfl := Option.some.inj hoi; clear hoi); intro K hK; go_simp
                (refine hK.out _ _ (by (first | assumption | exact Env.step (by assumption) (by assumption) | exact Env.old (by assumption) _ | exact Env.drew hE | exact hE | exact Env.drew (by assumption) | exact Env.drew (Env.old (by assumption) _) | ((repeat first | refine Env.far0 ?_ (by assumption) _ | refine Env.far1 ?_ (by assumption) _ | refine Env.farA ?_ (by assumption) _); assumption))) (fun hHeld => ?_); clear hK K; (try simp only [Act.put, List.setIfInBounds_toArray, List.set_cons_zero, List.set_cons_succ]))
                refine hTake 11 (by kernel_rfl) (by kernel_rfl) (by kernel_rfl) (by decide) (by assumption) ?_; (intro oi hoi; simp only [List.getElem?_toArray, List.getElem?_cons_succ, List.getElem?_cons_zero] at hoi; obtain rfl := Option.some.inj hoi; clear hoi); refine ⟨rfl, ?_⟩; apply Exists.intro; refine ⟨?_, fun _ _ _ h => h, ?_⟩; (intro w hSw; (try dsimp only at hSw); go_simp; (try with_reducible rfl)); (try simp only [Act.put, List.setIfInBounds_toArray, List.set_cons_zero, List.set_cons_succ])
                refine wpAnyH_done (by kernel_rfl) ?_ _
                go_wp2_with fail
                go_meet
                case rel => exact tkr_late (below_drew (Below.refl _ _)) hb5 hr2 hz2 hf2
              · (intro oi hoi; simp only [List.getElem?_toArray, List.getElem?_cons_succ, List.getElem?_cons_zero] at hoi; obtain rfl := Option.some.inj hoi; clear hoi); intro K hK
                go_simp
                (refine hK.out _ _ (by (first | assumption | exact Env.step (by assumption) (by assumption) | exact Env.old (by assumption) _ | exact Env.drew hE | exact hE | exact Env.drew (by assumption) | exact Env.drew (Env.old (by assumption) _) | ((repeat first | refine Env.far0 ?_ (by assumption) _ | refine Env.far1 ?_ (by assumption) _ | refine Env.farA ?_ (by assumption) _); assumption))) (fun hHeld => ?_); clear hK K; (try simp only [Act.put, List.setIfInBounds_toArray, List.set_cons_zero, List.set_cons_succ]))
                refine hOnly 5 (by kernel_rfl) (by decide) ?_; (intro oi hoi; simp only [List.getElem?_toArray, List.getElem?_cons_succ, List.getElem?_cons_zero] at hoi; obtain rfl := Option.some.inj hoi; clear hoi); intro K hK; go_simp
                go_at_call 41
                refine (HTA.out _ (rd_grown hra (below_new (below_drew (Below.refl _ _)) _))).mono ?_
                rintro r w5 ⟨P2, M2, S2, E2, R2, L2, gp, gm, gs, ge, gr, gl, rfl, hr2, hz2, hf2, hb5⟩
                have hEhb5 := Env.step hb5 (by assumption); (try (have hqhb5 := (by with_reducible first | exact Loc.below hb5 (Loc.new (Loc.nil _) _ _) | exact Loc.below hb5 (Loc.drew (Loc.new (Loc.nil _) _ _)) | exact Loc.below hb5 (by assumption : Loc _ [_])); (repeat rw [World.size_drew] at hqhb5); (repeat rw [World.size_alloc] at hqhb5); have hrhb5 := hqhb5; (repeat unfold Loc at hrhb5)))
                (refine hK.out _ _ (by (first | assumption | exact Env.step (by assumption) (by assumption) | exact Env.old (by assumption) _ | exact Env.drew hE | exact hE | exact Env.drew (by assumption) | exact Env.drew (Env.old (by assumption) _) | ((repeat first | refine Env.far0 ?_ (by assumption) _ | refine Env.far1 ?_ (by assumption) _ | refine Env.farA ?_ (by assumption) _); assumption))) (fun hHeld => ?_); clear hK K; (try simp only [Act.put, List.setIfInBounds_toArray, List.set_cons_zero, List.set_cons_succ]))
                refine hTake 6 (by kernel_rfl) (by kernel_rfl) (by kernel_rfl) (by decide) (by assumption) ?_; (intro oi hoi; simp only [List.getElem?_toArray, List.getElem?_cons_succ, List.getElem?_cons_zero] at hoi; obtain rfl := Option.some.inj hoi; clear hoi); refine ⟨rfl, ?_⟩; apply Exists.intro; refine ⟨?_, fun _ _ _ h => h, ?_⟩; (intro w hSw; (try dsimp only at hSw); go_simp; (try with_reducible rfl)); (try simp only [Act.put, List.setIfInBounds_toArray, List.set_cons_zero, List.set_cons_succ]); refine hTake 7 (by kernel_rfl) (by kernel_rfl) (by kernel_rfl) (by decide) (by assumption) ?_; (intro oi hoi; simp only [List.getElem?_toArray, List.getElem?_cons_succ, List.getElem?_cons_zero] at hoi; obtain rfl := Option.some.inj hoi; clear hoi); refine ⟨rfl, ?_⟩; apply Exists.intro; refine ⟨?_, fun _ _ _ h => h, ?_⟩; (intro w hSw; (try dsimp only at hSw); go_simp; (try with_reducible rfl)); (try simp only [Act.put, List.setIfInBounds_toArray, List.set_cons_zero, List.set_cons_succ]); refine hTake 8 (by kernel_rfl) (by kernel_rfl) (by kernel_rfl) (by decide) (by assumption) ?_; (intro oi hoi; simp only [List.getElem?_toArray, List.getElem?_cons_succ, List.getElem?_cons_zero] at hoi; obtain rfl := Option.some.inj hoi; clear hoi); refine ⟨rfl, ?_⟩; apply Exists.intro; refine ⟨?_, fun _ _ _ h => h, ?_⟩; (intro w hSw; (try dsimp only at hSw); go_simp; (try with_reducible rfl)); (try simp only [Act.put, List.setIfInBounds_toArray, List.set_cons_zero, List.set_cons_succ])
                refine hOnly 10 (by kernel_rfl) (by decide) ?_; (intro oi hoi; simp only [List.getElem?_toArray, List.getElem?_cons_succ, List.getElem?_cons_zero] at hoi; obtain rfl := Option.some.inj hoi; clear hoi); intro K hK; go_simp
                (refine hK.out _ _ (env_put9 (by assumption) (Nat.le_refl _) _ _ _ _ _ _ _ _ _ (fun q hq => Nat.ne_of_lt (Env.lt2 hE q hq))) (fun hHeld => ?_); clear hK K; (try simp only [Act.put, List.setIfInBounds_toArray, List.set_cons_zero, List.set_cons_succ]))
                refine hTake 11 (by kernel_rfl) (by kernel_rfl) (by kernel_rfl) (by decide) (by assumption) ?_; (intro oi hoi; simp only [List.getElem?_toArray, List.getElem?_cons_succ, List.getElem?_cons_zero] at hoi; obtain rfl := Option.some.inj hoi; clear hoi); refine ⟨rfl, ?_⟩; apply Exists.intro; refine ⟨?_, fun _ _ _ h => h, ?_⟩; (intro w hSw; (try dsimp only at hSw); go_simp; (try with_reducible rfl)); (try simp only [Act.put, List.setIfInBounds_toArray, List.set_cons_zero, List.set_cons_succ])
                refine wpAnyH_done (by kernel_rfl) ?_ _
                go_wp2_with fail
                go_meet
                case rel => exact tkr_first (below_new (below_drew (Below.refl _ _)) _) ((Loc.nil _).new [.int .u8 0, .int .i64 0, .int .i64 0, .slice none 0 0, .slice none 0 0, .slice none 0 0, .slice none 0 0, .slice none 0 0, .slice none 0 0] 67) (by simp) hb5 hr2 hz2 hf2
            case rest =>
              obtain ⟨c8, P2, M2, S2, E2, R2, L2, gp, gm, gs, ge, gr, gl, rfl, rfl, hc8, hl8, hr8, hz8, hf8, hb8⟩ := hcut
              have hlw := hl0.below hb8
              have hbw := below_then hb hb8
              have hF := hlw; have hF8 := hl8
              (repeat unfold Loc at hF hF8)
              go_upto_region 12 with fail
              obtain ⟨Z, hZ, hlZ, hbZ, oZ, hrZ, hrbZ, hsZ⟩ : ∃ Z, Z = put9 wc pa (.int .u8 6) (.int .i64 0) (.int .i64 0) (.slice P2 0 gp) (.slice M2 0 gm) (.slice S2 0 gs) (.slice E2 0 ge) (.slice R2 (nx + 1) gr) (.slice L2 0 gl) ∧ Loc Z [(pa, [.int .u8 6, .int .i64 0, .int .i64 0, .slice P2 0 gp, .slice M2 0 gm, .slice S2 0 gs, .slice E2 0 ge, .slice R2 (nx + 1) gr, .slice L2 0 gl]), (pa + 1, [.int .u8 6, .int .i64 0, .int .i64 0, .slice P' 0 cp', .slice M' 0 cm', .slice S' 0 cs', .slice E' 0 ce', .slice R' ny cr', .slice L' 0 cl'])] ∧ Below w.heap.size w Z ∧ Own wenc 5 Z BB 72 (.slice Aw nx cw) X ∧ Rd wenc 5 Z Z.heap.size R2 (X ++ [mrow m]) ∧ Rd wenc 5 Z Z.heap.size R' Y ∧ BB ≤ Z.heap.size := by
                have g1 : ∀ ad, R2 = some ad → pa < ad.block := fun ad h => Nat.lt_of_lt_of_le (by omega) (hf8 ad h)
                have g2 : ∀ ad, R' = some ad → pa < ad.block := fun ad h => Nat.lt_of_lt_of_le (by omega) (HFB.out ad h)
                exact ⟨_, rfl, put9_loc hlw (by simp) _ _ _ _ _ _ _ _ _, put9_below hbw (by omega) _ _ _ _ _ _ _ _ _, put9_own (hown.below hb8) (by omega) _ _ _ _ _ _ _ _ _, rd_put9 hr8 g1 _ _ _ _ _ _ _ _ _, rd_put9 (rd_grown hrb hb8) g2 _ _ _ _ _ _ _ _ _, by rw [put9_size]; exact Nat.le_trans hsr hb8.size⟩
              unfold put9 at hZ
              rw [← hZ]
              clear hZ hF hF8 hlw hl8
              have hrow : rowsOf (l.take (k + 1)) = X ++ [mrow m] := by rw [HSX.out, if_pos HIM.out, ← HX.out]
              have hlen : (X ++ [mrow m]).length = nx + 1 := by rw [List.length_append, HNX.out]; rfl
              obtain ⟨g0, g1, g2, g3, g4, g5, g6, g7, g8, g9⟩ := HMC.out _ hbZ
              have HROW := Lib.hid hrow; have HLEN := Lib.hid hlen
              clear hrow hlen f0 f1 f2 f3 f4 f5 f6 f7 f8 f9
              have hF := hlZ
              (repeat unfold Loc at hF)
              obtain ⟨t0, ht0, hz0, hz1, hz2⟩ := info_parts w_info
              go_wp2_with (at_builtin; refine wpList_append_fs rfl (.tmp 47) (.tmp 53) 64 rfl BB 72 t0 (.agg #[.int .i64 0, .int .i64 0, .int .i64 0, .int .i64 0, .int .i64 0]) 5 40 Try.underlying64 ht0 hz0 hz1 hz2 rfl (by decide) wenc wenc_len (.slice Aw nx cw) X (mrow m) rfl (oZ.alloc (.cells #[.int .i64 m.rk, .int .i64 m.rs, .int .i64 m.re, .int .i64 m.ra, .int .i64 m.rb] 72)) ⟨Z.heap.size, 0, none⟩ 1 rfl (w_new Z (mrow m) 72 Z.heap.size rfl) (wenc_one _) (by unfold maxLen; rw [HNX.out]; omega) (by rw [HNX.out]; omega) (by rw [World.size_alloc]; omega) ?_; intro v7 w7 own7 hgr7 hsf)
              go_meet
              case rel =>
                have hk7 : ∀ q, (Value.slice Aw nx cw).ownBlock = some q → BB ≤ q ∧ q < wr.heap.size := fun q hq => World.ownsRow.lt hown q hq
                have hapR : X ++ [mrow m] ≠ [] → ∀ ad, R2 = some ad → (Value.slice Aw nx cw).ownBlock ≠ some ad.block := fun _ ad e h => Nat.lt_irrefl _ (Nat.lt_of_lt_of_le (hk7 _ h).2 (hf8 ad e))
                obtain ⟨q1, q2⟩ := rd_apart hrZ hapR hgr7 hsf
                obtain ⟨q3, q4⟩ := rd_apart hrbZ (by rw [HY.out]; exact HPB.out) hgr7 hsf
                exact ⟨P2, M2, S2, E2, R2, L2, P', M', S', E', R', L', gp, gm, gs, ge, gr, gl, cp', cm', cs', ce', cr', cl', nx + 1, ny, by rw [HROW.out]; exact HLEN.out, by rw [← HY.out]; exact HNY.out, by omega, hyk, by rw [HROW.out]; exact own7, (hlZ.old (.cells #[.int .i64 m.rk, .int .i64 m.rs, .int .i64 m.re, .int .i64 m.ra, .int .i64 m.rb] 72)).grown hgr7 (fun q hq e => by have hh := (hk7 q.1 e.symm).1; simp at hq; rcases hq with rfl | rfl <;> (dsimp only at hh; omega)), by rw [HROW.out]; exact q1, by rw [← HY.out]; exact q3, hz8, HZB.out, fun ad e => Nat.le_trans hsr (hf8 ad e), HFB.out, by rw [HROW.out]; exact q2, by rw [← HY.out]; exact q4, (below_new hbZ (.cells #[.int .i64 m.rk, .int .i64 m.rs, .int .i64 m.re, .int .i64 m.ra, .int .i64 m.rb] 72)).trans (below_of_grown hgr7 (fun q hq => by have := (hk7 q hq).1; omega) (by rw [World.size_alloc]; omega)), Nat.le_trans hsZ (Nat.le_trans (by rw [World.size_alloc]; omega) hgr7.size)⟩
          · have hta := fun W (g : Rd wenc 5 W W.heap.size R X) => take6_no (m := m) HXO.out HNX.out (by omega) (by simpa using him) HZA.out W g
            have HTA := Lib.hid hta; have HIM := Lib.hid him
            clear hta him
            go_upto_region 9 with fail
            go_cut [8, 9] (fun v8 v9 wx => TkR 0 [] 0 8 wr v8 v9 wx)
            case first =>
              obtain ⟨lE, hE, hRR⟩ := Env.abs (w0 := wr) (Below.refl _ _) hl
              (repeat unfold Loc at hRR)
              have hRg : ∀ X, Env wr lE X → X.cell? ⟨b, off + k * 10, none⟩ = some (.int .u8 m.kind) ∧ X.cell? ⟨b, off + k * 10 + 1, none⟩ = some (.int .i64 m.k) ∧ X.cell? ⟨b, off + k * 10 + 2, none⟩ = some (.int .i64 m.t) ∧ X.cell? ⟨b, off + k * 10 + 3, none⟩ = some (.int .i64 m.v) ∧ X.cell? ⟨b, off + k * 10 + 4, none⟩ = some (.int .i64 m.time) ∧ X.cell? ⟨b, off + k * 10 + 5, none⟩ = some (.int .i64 m.rk) ∧ X.cell? ⟨b, off + k * 10 + 6, none⟩ = some (.int .i64 m.rs) ∧ X.cell? ⟨b, off + k * 10 + 7, none⟩ = some (.int .i64 m.re) ∧ X.cell? ⟨b, off + k * 10 + 8, none⟩ = some (.int .i64 m.ra) ∧ X.cell? ⟨b, off + k * 10 + 9, none⟩ = some (.int .i64 m.rb) := fun X hX => ⟨(hX.1.cell (p := ⟨b, off + k * 10, none⟩) hbr).trans f0, (hX.1.cell (p := ⟨b, off + k * 10 + 1, none⟩) hbr).trans f1, (hX.1.cell (p := ⟨b, off + k * 10 + 2, none⟩) hbr).trans f2, (hX.1.cell (p := ⟨b, off + k * 10 + 3, none⟩) hbr).trans f3, (hX.1.cell (p := ⟨b, off + k * 10 + 4, none⟩) hbr).trans f4, (hX.1.cell (p := ⟨b, off + k * 10 + 5, none⟩) hbr).trans f5, (hX.1.cell (p := ⟨b, off + k * 10 + 6, none⟩) hbr).trans f6, (hX.1.cell (p := ⟨b, off + k * 10 + 7, none⟩) hbr).trans f7, (hX.1.cell (p := ⟨b, off + k * 10 + 8, none⟩) hbr).trans f8, (hX.1.cell (p := ⟨b, off + k * 10 + 9, none⟩) hbr).trans f9⟩
              refine wp_region_held_drew (S := Env wr lE) (by kernel_rfl) (by (first | assumption | exact Env.step (by assumption) (by assumption) | exact Env.old (by assumption) _ | exact Env.drew hE | exact hE | exact Env.drew (by assumption) | exact Env.drew (Env.old (by assumption) _) | ((repeat first | refine Env.far0 ?_ (by assumption) _ | refine Env.far1 ?_ (by assumption) _ | refine Env.farA ?_ (by assumption) _); assumption))) (fun hHeld => ?_)
              refine hTake 0 (by kernel_rfl) (by kernel_rfl) (by kernel_rfl) (by decide) (by assumption) ?_; (intro oi hoi; simp only [List.getElem?_toArray, List.getElem?_cons_zero] at hoi; obtain rfl := Option.some.inj hoi; clear hoi); refine ⟨rfl, ?_⟩; apply Exists.intro; refine ⟨?_, fun _ _ _ h => h, ?_⟩; (intro w hSw; (try dsimp only at hSw); go_simp; (try with_reducible rfl)); (try simp only [Act.put, List.setIfInBounds_toArray, List.set_cons_zero, List.set_cons_succ]); refine hTake 1 (by kernel_rfl) (by kernel_rfl) (by kernel_rfl) (by decide) (by assumption) ?_; (intro oi hoi; simp only [List.getElem?_toArray, List.getElem?_cons_succ, List.getElem?_cons_zero] at hoi; obtain rfl := Option.some.inj hoi; clear hoi); refine ⟨rfl, ?_⟩; apply Exists.intro; refine ⟨?_, fun _ _ _ h => h, ?_⟩; (intro w hSw; (try dsimp only at hSw); go_simp; (try with_reducible rfl)); (try simp only [Act.put, List.setIfInBounds_toArray, List.set_cons_zero, List.set_cons_succ]); refine hTake 2 (by kernel_rfl) (by kernel_rfl) (by kernel_rfl) (by decide) (by assumption) ?_; (intro oi hoi; simp only [List.getElem?_toArray, List.getElem?_cons_succ, List.getElem?_cons_zero] at hoi; obtain rfl := Option.some.inj hoi; clear hoi); refine ⟨rfl, ?_⟩; apply Exists.intro; refine ⟨?_, fun _ _ _ h => h, ?_⟩; (intro w hSw; (try dsimp only at hSw); go_simp; (try with_reducible rfl)); (try simp only [Act.put, List.setIfInBounds_toArray, List.set_cons_zero, List.set_cons_succ]); refine hTake 3 (by kernel_rfl) (by kernel_rfl) (by kernel_rfl) (by decide) (by assumption) ?_; (intro oi hoi; simp only [List.getElem?_toArray, List.getElem?_cons_succ, List.getElem?_cons_zero] at hoi; obtain rfl := Option.some.inj hoi; clear hoi); refine ⟨rfl, ?_⟩; apply Exists.intro; refine ⟨?_, fun _ _ _ h => h, ?_⟩; (intro w hSw; (try dsimp only at hSw); go_simp; (try with_reducible rfl)); (try simp only [Act.put, List.setIfInBounds_toArray, List.set_cons_zero, List.set_cons_succ]); refine hTake 4 (by kernel_rfl) (by kernel_rfl) (by kernel_rfl) (by decide) (by assumption) ?_; (intro oi hoi; simp only [List.getElem?_toArray, List.getElem?_cons_succ, List.getElem?_cons_zero] at hoi; obtain rfl := Option.some.inj hoi; clear hoi); refine ⟨rfl, ?_⟩; apply Exists.intro; refine ⟨?_, fun _ _ _ h => h, ?_⟩; (intro w hSw; (try dsimp only at hSw); go_simp; (try with_reducible rfl)); (try simp only [Act.put, List.setIfInBounds_toArray, List.set_cons_zero, List.set_cons_succ])
              refine wpAnyH_ready (rs := [5, 9]) (by kernel_rfl) (by simp) ?_
              refine hCons 5 (by decide) ?_ (hCons 9 (by decide) ?_ AllReadyH.nil)
              · (intro oi hoi; simp only [List.getElem?_toArray, List.getElem?_cons_succ, List.getElem?_cons_zero] at hoi; obtain rfl := Option.some.inj hoi; clear hoi); intro K hK
                go_simp
                go_at_call 41
                refine (HTA.out wr.drew (Rd.drew hra)).mono ?_
                rintro r w5 ⟨P2, M2, S2, E2, R2, L2, gp, gm, gs, ge, gr, gl, rfl, hr2, hz2, hf2, hb5⟩
                have hEhb5 := Env.step hb5 (by assumption); (try (have hqhb5 := (by with_reducible first | exact Loc.below hb5 (Loc.new (Loc.nil _) _ _) | exact Loc.below hb5 (Loc.drew (Loc.new (Loc.nil _) _ _)) | exact Loc.below hb5 (by assumption : Loc _ [_])); (repeat rw [World.size_drew] at hqhb5); (repeat rw [World.size_alloc] at hqhb5); have hrhb5 := hqhb5; (repeat unfold Loc at hrhb5)))
                (refine hK.out _ _ (by (first | assumption | exact Env.step (by assumption) (by assumption) | exact Env.old (by assumption) _ | exact Env.drew hE | exact hE | exact Env.drew (by assumption) | exact Env.drew (Env.old (by assumption) _) | ((repeat first | refine Env.far0 ?_ (by assumption) _ | refine Env.far1 ?_ (by assumption) _ | refine Env.farA ?_ (by assumption) _); assumption))) (fun hHeld => ?_); clear hK K; (try simp only [Act.put, List.setIfInBounds_toArray, List.set_cons_zero, List.set_cons_succ]))
                refine hTake 6 (by kernel_rfl) (by kernel_rfl) (by kernel_rfl) (by decide) (by assumption) ?_; (intro oi hoi; simp only [List.getElem?_toArray, List.getElem?_cons_succ, List.getElem?_cons_zero] at hoi; obtain rfl := Option.some.inj hoi; clear hoi); refine ⟨rfl, ?_⟩; apply Exists.intro; refine ⟨?_, fun _ _ _ h => h, ?_⟩; (intro w hSw; (try dsimp only at hSw); go_simp; (try with_reducible rfl)); (try simp only [Act.put, List.setIfInBounds_toArray, List.set_cons_zero, List.set_cons_succ]); refine hTake 7 (by kernel_rfl) (by kernel_rfl) (by kernel_rfl) (by decide) (by assumption) ?_; (intro oi hoi; simp only [List.getElem?_toArray, List.getElem?_cons_succ, List.getElem?_cons_zero] at hoi; obtain rfl := Option.some.inj hoi; clear hoi); refine ⟨rfl, ?_⟩; apply Exists.intro; refine ⟨?_, fun _ _ _ h => h, ?_⟩; (intro w hSw; (try dsimp only at hSw); go_simp; (try with_reducible rfl)); (try simp only [Act.put, List.setIfInBounds_toArray, List.set_cons_zero, List.set_cons_succ]); refine hTake 8 (by kernel_rfl) (by kernel_rfl) (by kernel_rfl) (by decide) (by assumption) ?_; (intro oi hoi; simp only [List.getElem?_toArray, List.getElem?_cons_succ, List.getElem?_cons_zero] at hoi; obtain rfl := Option.some.inj hoi; clear hoi); refine ⟨rfl, ?_⟩; apply Exists.intro; refine ⟨?_, fun _ _ _ h => h, ?_⟩; (intro w hSw; (try dsimp only at hSw); go_simp; (try with_reducible rfl)); (try simp only [Act.put, List.setIfInBounds_toArray, List.set_cons_zero, List.set_cons_succ])
                refine hOnly 9 (by kernel_rfl) (by decide) ?_; (intro oi hoi; simp only [List.getElem?_toArray, List.getElem?_cons_succ, List.getElem?_cons_zero] at hoi; obtain rfl := Option.some.inj hoi; clear hoi); intro K hK; go_simp
                (refine hK.out _ _ (by (first | assumption | exact Env.step (by assumption) (by assumption) | exact Env.old (by assumption) _ | exact Env.drew hE | exact hE | exact Env.drew (by assumption) | exact Env.drew (Env.old (by assumption) _) | ((repeat first | refine Env.far0 ?_ (by assumption) _ | refine Env.far1 ?_ (by assumption) _ | refine Env.farA ?_ (by assumption) _); assumption))) (fun hHeld => ?_); clear hK K; (try simp only [Act.put, List.setIfInBounds_toArray, List.set_cons_zero, List.set_cons_succ]))
                refine hOnly 10 (by kernel_rfl) (by decide) ?_; (intro oi hoi; simp only [List.getElem?_toArray, List.getElem?_cons_succ, List.getElem?_cons_zero] at hoi; obtain rfl := Option.some.inj hoi; clear hoi); intro K hK; go_simp
                (refine hK.out _ _ (by (first | assumption | exact Env.step (by assumption) (by assumption) | exact Env.old (by assumption) _ | exact Env.drew hE | exact hE | exact Env.drew (by assumption) | exact Env.drew (Env.old (by assumption) _) | ((repeat first | refine Env.far0 ?_ (by assumption) _ | refine Env.far1 ?_ (by assumption) _ | refine Env.farA ?_ (by assumption) _); assumption))) (fun hHeld => ?_); clear hK K; (try simp only [Act.put, List.setIfInBounds_toArray, List.set_cons_zero, List.set_cons_succ]))
                refine hTake 11 (by kernel_rfl) (by kernel_rfl) (by kernel_rfl) (by decide) (by assumption) ?_; (intro oi hoi; simp only [List.getElem?_toArray, List.getElem?_cons_succ, List.getElem?_cons_zero] at hoi; obtain rfl := Option.some.inj hoi; clear hoi); refine ⟨rfl, ?_⟩; apply Exists.intro; refine ⟨?_, fun _ _ _ h => h, ?_⟩; (intro w hSw; (try dsimp only at hSw); go_simp; (try with_reducible rfl)); (try simp only [Act.put, List.setIfInBounds_toArray, List.set_cons_zero, List.set_cons_succ])
                refine wpAnyH_done (by kernel_rfl) ?_ _
                go_wp2_with fail
                go_meet
                case rel => exact tkr_late (below_drew (Below.refl _ _)) hb5 hr2 hz2 hf2
              · (intro oi hoi; simp only [List.getElem?_toArray, List.getElem?_cons_succ, List.getElem?_cons_zero] at hoi; obtain rfl := Option.some.inj hoi; clear hoi); intro K hK
                go_simp
                (refine hK.out _ _ (by (first | assumption | exact Env.step (by assumption) (by assumption) | exact Env.old (by assumption) _ | exact Env.drew hE | exact hE | exact Env.drew (by assumption) | exact Env.drew (Env.old (by assumption) _) | ((repeat first | refine Env.far0 ?_ (by assumption) _ | refine Env.far1 ?_ (by assumption) _ | refine Env.farA ?_ (by assumption) _); assumption))) (fun hHeld => ?_); clear hK K; (try simp only [Act.put, List.setIfInBounds_toArray, List.set_cons_zero, List.set_cons_succ]))
                refine hOnly 5 (by kernel_rfl) (by decide) ?_; (intro oi hoi; simp only [List.getElem?_toArray, List.getElem?_cons_succ, List.getElem?_cons_zero] at hoi; obtain rfl := Option.some.inj hoi; clear hoi); intro K hK; go_simp
                go_at_call 41
                refine (HTA.out _ (rd_grown hra (below_new (below_drew (Below.refl _ _)) _))).mono ?_
                rintro r w5 ⟨P2, M2, S2, E2, R2, L2, gp, gm, gs, ge, gr, gl, rfl, hr2, hz2, hf2, hb5⟩
                have hEhb5 := Env.step hb5 (by assumption); (try (have hqhb5 := (by with_reducible first | exact Loc.below hb5 (Loc.new (Loc.nil _) _ _) | exact Loc.below hb5 (Loc.drew (Loc.new (Loc.nil _) _ _)) | exact Loc.below hb5 (by assumption : Loc _ [_])); (repeat rw [World.size_drew] at hqhb5); (repeat rw [World.size_alloc] at hqhb5); have hrhb5 := hqhb5; (repeat unfold Loc at hrhb5)))
                (refine hK.out _ _ (by (first | assumption | exact Env.step (by assumption) (by assumption) | exact Env.old (by assumption) _ | exact Env.drew hE | exact hE | exact Env.drew (by assumption) | exact Env.drew (Env.old (by assumption) _) | ((repeat first | refine Env.far0 ?_ (by assumption) _ | refine Env.far1 ?_ (by assumption) _ | refine Env.farA ?_ (by assumption) _); assumption))) (fun hHeld => ?_); clear hK K; (try simp only [Act.put, List.setIfInBounds_toArray, List.set_cons_zero, List.set_cons_succ]))
                refine hTake 6 (by kernel_rfl) (by kernel_rfl) (by kernel_rfl) (by decide) (by assumption) ?_; (intro oi hoi; simp only [List.getElem?_toArray, List.getElem?_cons_succ, List.getElem?_cons_zero] at hoi; obtain rfl := Option.some.inj hoi; clear hoi); refine ⟨rfl, ?_⟩; apply Exists.intro; refine ⟨?_, fun _ _ _ h => h, ?_⟩; (intro w hSw; (try dsimp only at hSw); go_simp; (try with_reducible rfl)); (try simp only [Act.put, List.setIfInBounds_toArray, List.set_cons_zero, List.set_cons_succ]); refine hTake 7 (by kernel_rfl) (by kernel_rfl) (by kernel_rfl) (by decide) (by assumption) ?_; (intro oi hoi; simp only [List.getElem?_toArray, List.getElem?_cons_succ, List.getElem?_cons_zero] at hoi; obtain rfl := Option.some.inj hoi; clear hoi); refine ⟨rfl, ?_⟩; apply Exists.intro; refine ⟨?_, fun _ _ _ h => h, ?_⟩; (intro w hSw; (try dsimp only at hSw); go_simp; (try with_reducible rfl)); (try simp only [Act.put, List.setIfInBounds_toArray, List.set_cons_zero, List.set_cons_succ]); refine hTake 8 (by kernel_rfl) (by kernel_rfl) (by kernel_rfl) (by decide) (by assumption) ?_; (intro oi hoi; simp only [List.getElem?_toArray, List.getElem?_cons_succ, List.getElem?_cons_zero] at hoi; obtain rfl := Option.some.inj hoi; clear hoi); refine ⟨rfl, ?_⟩; apply Exists.intro; refine ⟨?_, fun _ _ _ h => h, ?_⟩; (intro w hSw; (try dsimp only at hSw); go_simp; (try with_reducible rfl)); (try simp only [Act.put, List.setIfInBounds_toArray, List.set_cons_zero, List.set_cons_succ])
                refine hOnly 10 (by kernel_rfl) (by decide) ?_; (intro oi hoi; simp only [List.getElem?_toArray, List.getElem?_cons_succ, List.getElem?_cons_zero] at hoi; obtain rfl := Option.some.inj hoi; clear hoi); intro K hK; go_simp
                (refine hK.out _ _ (env_put9 (by assumption) (Nat.le_refl _) _ _ _ _ _ _ _ _ _ (fun q hq => Nat.ne_of_lt (Env.lt2 hE q hq))) (fun hHeld => ?_); clear hK K; (try simp only [Act.put, List.setIfInBounds_toArray, List.set_cons_zero, List.set_cons_succ]))
                refine hTake 11 (by kernel_rfl) (by kernel_rfl) (by kernel_rfl) (by decide) (by assumption) ?_; (intro oi hoi; simp only [List.getElem?_toArray, List.getElem?_cons_succ, List.getElem?_cons_zero] at hoi; obtain rfl := Option.some.inj hoi; clear hoi); refine ⟨rfl, ?_⟩; apply Exists.intro; refine ⟨?_, fun _ _ _ h => h, ?_⟩; (intro w hSw; (try dsimp only at hSw); go_simp; (try with_reducible rfl)); (try simp only [Act.put, List.setIfInBounds_toArray, List.set_cons_zero, List.set_cons_succ])
                refine wpAnyH_done (by kernel_rfl) ?_ _
                go_wp2_with fail
                go_meet
                case rel => exact tkr_first (below_new (below_drew (Below.refl _ _)) _) ((Loc.nil _).new [.int .u8 0, .int .i64 0, .int .i64 0, .slice none 0 0, .slice none 0 0, .slice none 0 0, .slice none 0 0, .slice none 0 0, .slice none 0 0] 67) (by simp) hb5 hr2 hz2 hf2
            case rest =>
              obtain ⟨c8, P2, M2, S2, E2, R2, L2, gp, gm, gs, ge, gr, gl, rfl, rfl, hc8, hl8, hr8, hz8, hf8, hb8⟩ := hcut
              have hlw := hl0.below hb8
              have hbw := below_then hb hb8
              obtain ⟨g0, g1, g2, g3, g4, g5, g6, g7, g8, g9⟩ := HMC.out _ hbw
              have hva := fun W => valid_any m.kind m.k m.t m.v m.time m.rk m.rs m.re m.ra m.rb W
              obtain ⟨V, hV⟩ : ∃ V, V = msok m := ⟨_, rfl⟩
              rw [show (⟨m.kind, m.k, m.t, m.v, m.time, m.rk, m.rs, m.re, m.ra, m.rb⟩ : Ms) = m from rfl, ← hV] at hva
              have HVA := Lib.hid hva
              have hnk : V = true → (m.kind == 3) = false := fun h => by have := HIM.out; unfold isRow at this; rw [← hV, h] at this; simpa using this
              have HNK := Lib.hid hnk
              clear hV hva hnk f0 f1 f2 f3 f4 f5 f6 f7 f8 f9
              have hrow : rowsOf (l.take (k + 1)) = rowsOf (l.take k) := by rw [HSX.out, if_neg HIM.out, List.append_nil]
              have HROW := Lib.hid hrow
              clear hrow
              cases V with
              | false =>
                go_wp2_with fail
                go_at_call 70
                refine (HVA.out _).mono ?_
                rintro r w6 ⟨rfl, hb6⟩
                obtain ⟨g0, g1, g2, g3, g4, g5, g6, g7, g8, g9⟩ := HMC.out _ (below_then hbw hb6)
                go_wp2_with fail
                go_meet
                case rel => exact HST.out.more (below_then hb8 hb6) HROW.out rfl (Nat.le_succ _) (Nat.le_refl _)
              | true =>
                have dk := HNK.out rfl
                go_wp2_with fail
                go_at_call 70
                refine (HVA.out _).mono ?_
                rintro r w6 ⟨rfl, hb6⟩
                obtain ⟨g0, g1, g2, g3, g4, g5, g6, g7, g8, g9⟩ := HMC.out _ (below_then hbw hb6)
                go_wp2_with fail
                go_meet
                case rel => exact HST.out.more (below_then hb8 hb6) HROW.out rfl (Nat.le_succ _) (Nat.le_refl _)
        case rest =>
          have hst2 := hcut
          have HST2 := Lib.hid hst2
          clear hst2 hcut
          obtain ⟨wc0, rfl⟩ : ∃ x, x = wc := ⟨_, rfl⟩
          obtain ⟨P, M, S, E, R, L, P', M', S', E', R', L', cp, cm, cs, ce, cr, cl, cp', cm', cs', ce', cr', cl', nx, ny, hnx, hny, hxk, hyk, hown, hl, hra, hrb, hza, hzb, hfa, hfb, hpa, hpb, hb, hsr⟩ := HST2.out
          obtain ⟨X, hX⟩ : ∃ X, X = rowsOf (l.take (k + 1)) := ⟨_, rfl⟩
          obtain ⟨Y, hY⟩ : ∃ Y, Y = rowsOf (l.reverse.take k) := ⟨_, rfl⟩
          rw [← hX] at hnx hown hra
          rw [← hY] at hny hrb
          have hXo : ∀ x ∈ X, isrow x.s x.e = true := by rw [hX]; exact rowsOf_ok _
          have hYo : ∀ x ∈ Y, isrow x.s x.e = true := by rw [hY]; exact rowsOf_ok _
          obtain ⟨Aw, cw, rfl, -, zw⟩ := own_shape_z hown hnx
          have hmc := HQC.out _ hb
          obtain ⟨f0, f1, f2, f3, f4, f5, f6, f7, f8, f9⟩ := hmc
          have hpw : pa + 1 < wc0.heap.size := by omega
          have HX := Lib.hid hX; have HY := Lib.hid hY; have HNX := Lib.hid hnx; have HNY := Lib.hid hny; have HXO := Lib.hid hXo; have HYO := Lib.hid hYo; have HZA := Lib.hid hza; have HZB := Lib.hid hzb; have HZW := Lib.hid zw; have HFA := Lib.hid hfa; have HFB := Lib.hid hfb; have HPA := Lib.hid hpa; have HPB := Lib.hid hpb
          clear hX hY hnx hny hXo hYo hza hzb zw hfa hfb hpa hpb
          have hl0 := hl; have hbr := Nat.lt_of_lt_of_le hbb hb.size
          by_cases him : isRow q = true
          · have hta := fun W (g : Rd wenc 5 W W.heap.size R' Y) => take6_yes (m := q) HYO.out HNY.out (by omega) him HZB.out W g
            have HTA := Lib.hid hta; have HIM := Lib.hid him
            clear hta him
            go_upto_region 15 with fail
            go_cut [10, 11] (fun v8 v9 wx => TkR 6 (Y ++ [mrow q]) (ny + 1) 0 wc0 v8 v9 wx)
            case first =>
              obtain ⟨lE, hE, hRR⟩ := Env.abs (w0 := wc0) (Below.refl _ _) hl
              (repeat unfold Loc at hRR)
              have hRg : ∀ X, Env wc0 lE X → X.cell? ⟨b, off + j * 10, none⟩ = some (.int .u8 q.kind) ∧ X.cell? ⟨b, off + j * 10 + 1, none⟩ = some (.int .i64 q.k) ∧ X.cell? ⟨b, off + j * 10 + 2, none⟩ = some (.int .i64 q.t) ∧ X.cell? ⟨b, off + j * 10 + 3, none⟩ = some (.int .i64 q.v) ∧ X.cell? ⟨b, off + j * 10 + 4, none⟩ = some (.int .i64 q.time) ∧ X.cell? ⟨b, off + j * 10 + 5, none⟩ = some (.int .i64 q.rk) ∧ X.cell? ⟨b, off + j * 10 + 6, none⟩ = some (.int .i64 q.rs) ∧ X.cell? ⟨b, off + j * 10 + 7, none⟩ = some (.int .i64 q.re) ∧ X.cell? ⟨b, off + j * 10 + 8, none⟩ = some (.int .i64 q.ra) ∧ X.cell? ⟨b, off + j * 10 + 9, none⟩ = some (.int .i64 q.rb) := fun X hX => ⟨(hX.1.cell (p := ⟨b, off + j * 10, none⟩) hbr).trans f0, (hX.1.cell (p := ⟨b, off + j * 10 + 1, none⟩) hbr).trans f1, (hX.1.cell (p := ⟨b, off + j * 10 + 2, none⟩) hbr).trans f2, (hX.1.cell (p := ⟨b, off + j * 10 + 3, none⟩) hbr).trans f3, (hX.1.cell (p := ⟨b, off + j * 10 + 4, none⟩) hbr).trans f4, (hX.1.cell (p := ⟨b, off + j * 10 + 5, none⟩) hbr).trans f5, (hX.1.cell (p := ⟨b, off + j * 10 + 6, none⟩) hbr).trans f6, (hX.1.cell (p := ⟨b, off + j * 10 + 7, none⟩) hbr).trans f7, (hX.1.cell (p := ⟨b, off + j * 10 + 8, none⟩) hbr).trans f8, (hX.1.cell (p := ⟨b, off + j * 10 + 9, none⟩) hbr).trans f9⟩
              refine wp_region_held_drew (S := Env wc0 lE) (by kernel_rfl) (by (first | assumption | exact Env.step (by assumption) (by assumption) | exact Env.old (by assumption) _ | exact Env.drew hE | exact hE | exact Env.drew (by assumption) | exact Env.drew (Env.old (by assumption) _) | ((repeat first | refine Env.far0 ?_ (by assumption) _ | refine Env.far1 ?_ (by assumption) _ | refine Env.farA ?_ (by assumption) _); assumption))) (fun hHeld => ?_)
              refine hTake 0 (by kernel_rfl) (by kernel_rfl) (by kernel_rfl) (by decide) (by assumption) ?_; (intro oi hoi; simp only [List.getElem?_toArray, List.getElem?_cons_zero] at hoi; obtain rfl := Option.some.inj hoi; clear hoi); refine ⟨rfl, ?_⟩; apply Exists.intro; refine ⟨?_, fun _ _ _ h => h, ?_⟩; (intro w hSw; (try dsimp only at hSw); go_simp; (try with_reducible rfl)); (try simp only [Act.put, List.setIfInBounds_toArray, List.set_cons_zero, List.set_cons_succ]); refine hTake 1 (by kernel_rfl) (by kernel_rfl) (by kernel_rfl) (by decide) (by assumption) ?_; (intro oi hoi; simp only [List.getElem?_toArray, List.getElem?_cons_succ, List.getElem?_cons_zero] at hoi; obtain rfl := Option.some.inj hoi; clear hoi); refine ⟨rfl, ?_⟩; apply Exists.intro; refine ⟨?_, fun _ _ _ h => h, ?_⟩; (intro w hSw; (try dsimp only at hSw); go_simp; (try with_reducible rfl)); (try simp only [Act.put, List.setIfInBounds_toArray, List.set_cons_zero, List.set_cons_succ]); refine hTake 2 (by kernel_rfl) (by kernel_rfl) (by kernel_rfl) (by decide) (by assumption) ?_; (intro oi hoi; simp only [List.getElem?_toArray, List.getElem?_cons_succ, List.getElem?_cons_zero] at hoi; obtain rfl := Option.some.inj hoi; clear hoi); refine ⟨rfl, ?_⟩; apply Exists.intro; refine ⟨?_, fun _ _ _ h => h, ?_⟩; (intro w hSw; (try dsimp only at hSw); go_simp; (try with_reducible rfl)); (try simp only [Act.put, List.setIfInBounds_toArray, List.set_cons_zero, List.set_cons_succ]); refine hTake 3 (by kernel_rfl) (by kernel_rfl) (by kernel_rfl) (by decide) (by assumption) ?_; (intro oi hoi; simp only [List.getElem?_toArray, List.getElem?_cons_succ, List.getElem?_cons_zero] at hoi; obtain rfl := Option.some.inj hoi; clear hoi); refine ⟨rfl, ?_⟩; apply Exists.intro; refine ⟨?_, fun _ _ _ h => h, ?_⟩; (intro w hSw; (try dsimp only at hSw); go_simp; (try with_reducible rfl)); (try simp only [Act.put, List.setIfInBounds_toArray, List.set_cons_zero, List.set_cons_succ]); refine hTake 4 (by kernel_rfl) (by kernel_rfl) (by kernel_rfl) (by decide) (by assumption) ?_; (intro oi hoi; simp only [List.getElem?_toArray, List.getElem?_cons_succ, List.getElem?_cons_zero] at hoi; obtain rfl := Option.some.inj hoi; clear hoi); refine ⟨rfl, ?_⟩; apply Exists.intro; refine ⟨?_, fun _ _ _ h => h, ?_⟩; (intro w hSw; (try dsimp only at hSw); go_simp; (try with_reducible rfl)); (try simp only [Act.put, List.setIfInBounds_toArray, List.set_cons_zero, List.set_cons_succ]); refine hTake 5 (by kernel_rfl) (by kernel_rfl) (by kernel_rfl) (by decide) (by assumption) ?_; (intro oi hoi; simp only [List.getElem?_toArray, List.getElem?_cons_succ, List.getElem?_cons_zero] at hoi; obtain rfl := Option.some.inj hoi; clear hoi); refine ⟨rfl, ?_⟩; apply Exists.intro; refine ⟨?_, fun _ _ _ h => h, ?_⟩; (intro w hSw; (try dsimp only at hSw); go_simp; (try with_reducible rfl)); (try simp only [Act.put, List.setIfInBounds_toArray, List.set_cons_zero, List.set_cons_succ]); refine hTake 6 (by kernel_rfl) (by kernel_rfl) (by kernel_rfl) (by decide) (by assumption) ?_; (intro oi hoi; simp only [List.getElem?_toArray, List.getElem?_cons_succ, List.getElem?_cons_zero] at hoi; obtain rfl := Option.some.inj hoi; clear hoi); refine ⟨rfl, ?_⟩; apply Exists.intro; refine ⟨?_, fun _ _ _ h => h, ?_⟩; (intro w hSw; (try dsimp only at hSw); go_simp; (try with_reducible rfl)); (try simp only [Act.put, List.setIfInBounds_toArray, List.set_cons_zero, List.set_cons_succ]); refine hTake 7 (by kernel_rfl) (by kernel_rfl) (by kernel_rfl) (by decide) (by assumption) ?_; (intro oi hoi; simp only [List.getElem?_toArray, List.getElem?_cons_succ, List.getElem?_cons_zero] at hoi; obtain rfl := Option.some.inj hoi; clear hoi); refine ⟨rfl, ?_⟩; apply Exists.intro; refine ⟨?_, fun _ _ _ h => h, ?_⟩; (intro w hSw; (try dsimp only at hSw); go_simp; (try with_reducible rfl)); (try simp only [Act.put, List.setIfInBounds_toArray, List.set_cons_zero, List.set_cons_succ]); refine hTake 8 (by kernel_rfl) (by kernel_rfl) (by kernel_rfl) (by decide) (by assumption) ?_; (intro oi hoi; simp only [List.getElem?_toArray, List.getElem?_cons_succ, List.getElem?_cons_zero] at hoi; obtain rfl := Option.some.inj hoi; clear hoi); refine ⟨rfl, ?_⟩; apply Exists.intro; refine ⟨?_, fun _ _ _ h => h, ?_⟩; (intro w hSw; (try dsimp only at hSw); go_simp; (try with_reducible rfl)); (try simp only [Act.put, List.setIfInBounds_toArray, List.set_cons_zero, List.set_cons_succ])
              refine wpAnyH_ready (rs := [9, 13]) (by kernel_rfl) (by simp) ?_
              refine hCons 9 (by decide) ?_ (hCons 13 (by decide) ?_ AllReadyH.nil)
              · (intro oi hoi; simp only [List.getElem?_toArray, List.getElem?_cons_succ, List.getElem?_cons_zero] at hoi; obtain rfl := Option.some.inj hoi; clear hoi); intro K hK
                go_simp
                go_at_call 41
                refine (HTA.out wc0.drew (Rd.drew hrb)).mono ?_
                rintro r w5 ⟨P2, M2, S2, E2, R2, L2, gp, gm, gs, ge, gr, gl, rfl, hr2, hz2, hf2, hb5⟩
                have hEhb5 := Env.step hb5 (by assumption); (try (have hqhb5 := (by with_reducible first | exact Loc.below hb5 (Loc.new (Loc.nil _) _ _) | exact Loc.below hb5 (Loc.drew (Loc.new (Loc.nil _) _ _)) | exact Loc.below hb5 (by assumption : Loc _ [_])); (repeat rw [World.size_drew] at hqhb5); (repeat rw [World.size_alloc] at hqhb5); have hrhb5 := hqhb5; (repeat unfold Loc at hrhb5)))
                (refine hK.out _ _ (by (first | assumption | exact Env.step (by assumption) (by assumption) | exact Env.old (by assumption) _ | exact Env.drew hE | exact hE | exact Env.drew (by assumption) | exact Env.drew (Env.old (by assumption) _) | ((repeat first | refine Env.far0 ?_ (by assumption) _ | refine Env.far1 ?_ (by assumption) _ | refine Env.farA ?_ (by assumption) _); assumption))) (fun hHeld => ?_); clear hK K; (try simp only [Act.put, List.setIfInBounds_toArray, List.set_cons_zero, List.set_cons_succ]))
                refine hTake 10 (by kernel_rfl) (by kernel_rfl) (by kernel_rfl) (by decide) (by assumption) ?_; (intro oi hoi; simp only [List.getElem?_toArray, List.getElem?_cons_succ, List.getElem?_cons_zero] at hoi; obtain rfl := Option.some.inj hoi; clear hoi); refine ⟨rfl, ?_⟩; apply Exists.intro; refine ⟨?_, fun _ _ _ h => h, ?_⟩; (intro w hSw; (try dsimp only at hSw); go_simp; (try with_reducible rfl)); (try simp only [Act.put, List.setIfInBounds_toArray, List.set_cons_zero, List.set_cons_succ]); refine hTake 11 (by kernel_rfl) (by kernel_rfl) (by kernel_rfl) (by decide) (by assumption) ?_; (intro oi hoi; simp only [List.getElem?_toArray, List.getElem?_cons_succ, List.getElem?_cons_zero] at hoi; obtain rfl := Option.some.inj hoi; clear hoi); refine ⟨rfl, ?_⟩; apply Exists.intro; refine ⟨?_, fun _ _ _ h => h, ?_⟩; (intro w hSw; (try dsimp only at hSw); go_simp; (try with_reducible rfl)); (try simp only [Act.put, List.setIfInBounds_toArray, List.set_cons_zero, List.set_cons_succ]); refine hTake 12 (by kernel_rfl) (by kernel_rfl) (by kernel_rfl) (by decide) (by assumption) ?_; (intro oi hoi; simp only [List.getElem?_toArray, List.getElem?_cons_succ, List.getElem?_cons_zero] at hoi; obtain rfl := Option.some.inj hoi; clear hoi); refine ⟨rfl, ?_⟩; apply Exists.intro; refine ⟨?_, fun _ _ _ h => h, ?_⟩; (intro w hSw; (try dsimp only at hSw); go_simp; (try with_reducible rfl)); (try simp only [Act.put, List.setIfInBounds_toArray, List.set_cons_zero, List.set_cons_succ])
                refine hOnly 13 (by kernel_rfl) (by decide) ?_; (intro oi hoi; simp only [List.getElem?_toArray, List.getElem?_cons_succ, List.getElem?_cons_zero] at hoi; obtain rfl := Option.some.inj hoi; clear hoi); intro K hK; go_simp
                (refine hK.out _ _ (by (first | assumption | exact Env.step (by assumption) (by assumption) | exact Env.old (by assumption) _ | exact Env.drew hE | exact hE | exact Env.drew (by assumption) | exact Env.drew (Env.old (by assumption) _) | ((repeat first | refine Env.far0 ?_ (by assumption) _ | refine Env.far1 ?_ (by assumption) _ | refine Env.farA ?_ (by assumption) _); assumption))) (fun hHeld => ?_); clear hK K; (try simp only [Act.put, List.setIfInBounds_toArray, List.set_cons_zero, List.set_cons_succ]))
                refine hOnly 14 (by kernel_rfl) (by decide) ?_; (intro oi hoi; simp only [List.getElem?_toArray, List.getElem?_cons_succ, List.getElem?_cons_zero] at hoi; obtain rfl := Option.some.inj hoi; clear hoi); intro K hK; go_simp
                (refine hK.out _ _ (by (first | assumption | exact Env.step (by assumption) (by assumption) | exact Env.old (by assumption) _ | exact Env.drew hE | exact hE | exact Env.drew (by assumption) | exact Env.drew (Env.old (by assumption) _) | ((repeat first | refine Env.far0 ?_ (by assumption) _ | refine Env.far1 ?_ (by assumption) _ | refine Env.farA ?_ (by assumption) _); assumption))) (fun hHeld => ?_); clear hK K; (try simp only [Act.put, List.setIfInBounds_toArray, List.set_cons_zero, List.set_cons_succ]))
                refine hTake 15 (by kernel_rfl) (by kernel_rfl) (by kernel_rfl) (by decide) (by assumption) ?_; (intro oi hoi; simp only [List.getElem?_toArray, List.getElem?_cons_succ, List.getElem?_cons_zero] at hoi; obtain rfl := Option.some.inj hoi; clear hoi); refine ⟨rfl, ?_⟩; apply Exists.intro; refine ⟨?_, fun _ _ _ h => h, ?_⟩; (intro w hSw; (try dsimp only at hSw); go_simp; (try with_reducible rfl)); (try simp only [Act.put, List.setIfInBounds_toArray, List.set_cons_zero, List.set_cons_succ])
                refine wpAnyH_done (by kernel_rfl) ?_ _
                go_wp2_with fail
                go_meet
                case rel => exact tkr_late (below_drew (Below.refl _ _)) hb5 hr2 hz2 hf2
              · (intro oi hoi; simp only [List.getElem?_toArray, List.getElem?_cons_succ, List.getElem?_cons_zero] at hoi; obtain rfl := Option.some.inj hoi; clear hoi); intro K hK
                go_simp
                (refine hK.out _ _ (by (first | assumption | exact Env.step (by assumption) (by assumption) | exact Env.old (by assumption) _ | exact Env.drew hE | exact hE | exact Env.drew (by assumption) | exact Env.drew (Env.old (by assumption) _) | ((repeat first | refine Env.far0 ?_ (by assumption) _ | refine Env.far1 ?_ (by assumption) _ | refine Env.farA ?_ (by assumption) _); assumption))) (fun hHeld => ?_); clear hK K; (try simp only [Act.put, List.setIfInBounds_toArray, List.set_cons_zero, List.set_cons_succ]))
                refine hOnly 9 (by kernel_rfl) (by decide) ?_; (intro oi hoi; simp only [List.getElem?_toArray, List.getElem?_cons_succ, List.getElem?_cons_zero] at hoi; obtain rfl := Option.some.inj hoi; clear hoi); intro K hK; go_simp
                go_at_call 41
                refine (HTA.out _ (rd_grown hrb (below_new (below_drew (Below.refl _ _)) _))).mono ?_
                rintro r w5 ⟨P2, M2, S2, E2, R2, L2, gp, gm, gs, ge, gr, gl, rfl, hr2, hz2, hf2, hb5⟩
                have hEhb5 := Env.step hb5 (by assumption); (try (have hqhb5 := (by with_reducible first | exact Loc.below hb5 (Loc.new (Loc.nil _) _ _) | exact Loc.below hb5 (Loc.drew (Loc.new (Loc.nil _) _ _)) | exact Loc.below hb5 (by assumption : Loc _ [_])); (repeat rw [World.size_drew] at hqhb5); (repeat rw [World.size_alloc] at hqhb5); have hrhb5 := hqhb5; (repeat unfold Loc at hrhb5)))
                (refine hK.out _ _ (by (first | assumption | exact Env.step (by assumption) (by assumption) | exact Env.old (by assumption) _ | exact Env.drew hE | exact hE | exact Env.drew (by assumption) | exact Env.drew (Env.old (by assumption) _) | ((repeat first | refine Env.far0 ?_ (by assumption) _ | refine Env.far1 ?_ (by assumption) _ | refine Env.farA ?_ (by assumption) _); assumption))) (fun hHeld => ?_); clear hK K; (try simp only [Act.put, List.setIfInBounds_toArray, List.set_cons_zero, List.set_cons_succ]))
                refine hTake 10 (by kernel_rfl) (by kernel_rfl) (by kernel_rfl) (by decide) (by assumption) ?_; (intro oi hoi; simp only [List.getElem?_toArray, List.getElem?_cons_succ, List.getElem?_cons_zero] at hoi; obtain rfl := Option.some.inj hoi; clear hoi); refine ⟨rfl, ?_⟩; apply Exists.intro; refine ⟨?_, fun _ _ _ h => h, ?_⟩; (intro w hSw; (try dsimp only at hSw); go_simp; (try with_reducible rfl)); (try simp only [Act.put, List.setIfInBounds_toArray, List.set_cons_zero, List.set_cons_succ]); refine hTake 11 (by kernel_rfl) (by kernel_rfl) (by kernel_rfl) (by decide) (by assumption) ?_; (intro oi hoi; simp only [List.getElem?_toArray, List.getElem?_cons_succ, List.getElem?_cons_zero] at hoi; obtain rfl := Option.some.inj hoi; clear hoi); refine ⟨rfl, ?_⟩; apply Exists.intro; refine ⟨?_, fun _ _ _ h => h, ?_⟩; (intro w hSw; (try dsimp only at hSw); go_simp; (try with_reducible rfl)); (try simp only [Act.put, List.setIfInBounds_toArray, List.set_cons_zero, List.set_cons_succ]); refine hTake 12 (by kernel_rfl) (by kernel_rfl) (by kernel_rfl) (by decide) (by assumption) ?_; (intro oi hoi; simp only [List.getElem?_toArray, List.getElem?_cons_succ, List.getElem?_cons_zero] at hoi; obtain rfl := Option.some.inj hoi; clear hoi); refine ⟨rfl, ?_⟩; apply Exists.intro; refine ⟨?_, fun _ _ _ h => h, ?_⟩; (intro w hSw; (try dsimp only at hSw); go_simp; (try with_reducible rfl)); (try simp only [Act.put, List.setIfInBounds_toArray, List.set_cons_zero, List.set_cons_succ])
                refine hOnly 14 (by kernel_rfl) (by decide) ?_; (intro oi hoi; simp only [List.getElem?_toArray, List.getElem?_cons_succ, List.getElem?_cons_zero] at hoi; obtain rfl := Option.some.inj hoi; clear hoi); intro K hK; go_simp
                (refine hK.out _ _ (env_put9 (by assumption) (Nat.le_refl _) _ _ _ _ _ _ _ _ _ (fun q hq => Nat.ne_of_lt (Env.lt2 hE q hq))) (fun hHeld => ?_); clear hK K; (try simp only [Act.put, List.setIfInBounds_toArray, List.set_cons_zero, List.set_cons_succ]))
                refine hTake 15 (by kernel_rfl) (by kernel_rfl) (by kernel_rfl) (by decide) (by assumption) ?_; (intro oi hoi; simp only [List.getElem?_toArray, List.getElem?_cons_succ, List.getElem?_cons_zero] at hoi; obtain rfl := Option.some.inj hoi; clear hoi); refine ⟨rfl, ?_⟩; apply Exists.intro; refine ⟨?_, fun _ _ _ h => h, ?_⟩; (intro w hSw; (try dsimp only at hSw); go_simp; (try with_reducible rfl)); (try simp only [Act.put, List.setIfInBounds_toArray, List.set_cons_zero, List.set_cons_succ])
                refine wpAnyH_done (by kernel_rfl) ?_ _
                go_wp2_with fail
                go_meet
                case rel => exact tkr_first (below_new (below_drew (Below.refl _ _)) _) ((Loc.nil _).new [.int .u8 0, .int .i64 0, .int .i64 0, .slice none 0 0, .slice none 0 0, .slice none 0 0, .slice none 0 0, .slice none 0 0, .slice none 0 0] 67) (by simp) hb5 hr2 hz2 hf2
            case rest =>
              obtain ⟨c8, P2, M2, S2, E2, R2, L2, gp, gm, gs, ge, gr, gl, rfl, rfl, hc8, hl8, hr8, hz8, hf8, hb8⟩ := hcut
              have hlw := hl0.below hb8
              have hbw := below_then hb hb8
              have hF := hlw; have hF8 := hl8
              (repeat unfold Loc at hF hF8)
              go_upto_region 8 with fail
              obtain ⟨Z, hZ, hlZ, hbZ, oZ, hrZ, hrbZ, hsZ⟩ : ∃ Z, Z = put9 wc (pa + 1) (.int .u8 6) (.int .i64 0) (.int .i64 0) (.slice P2 0 gp) (.slice M2 0 gm) (.slice S2 0 gs) (.slice E2 0 ge) (.slice R2 (ny + 1) gr) (.slice L2 0 gl) ∧ Loc Z [(pa, [.int .u8 6, .int .i64 0, .int .i64 0, .slice P 0 cp, .slice M 0 cm, .slice S 0 cs, .slice E 0 ce, .slice R nx cr, .slice L 0 cl]), (pa + 1, [.int .u8 6, .int .i64 0, .int .i64 0, .slice P2 0 gp, .slice M2 0 gm, .slice S2 0 gs, .slice E2 0 ge, .slice R2 (ny + 1) gr, .slice L2 0 gl])] ∧ Below w.heap.size w Z ∧ Own wenc 5 Z BB 72 (.slice Aw nx cw) X ∧ Rd wenc 5 Z Z.heap.size R2 (Y ++ [mrow q]) ∧ Rd wenc 5 Z Z.heap.size R X ∧ BB ≤ Z.heap.size := by
                have g1 : ∀ ad, R2 = some ad → (pa + 1) < ad.block := fun ad h => Nat.lt_of_lt_of_le (by omega) (hf8 ad h)
                have g2 : ∀ ad, R = some ad → (pa + 1) < ad.block := fun ad h => Nat.lt_of_lt_of_le (by omega) (HFA.out ad h)
                exact ⟨_, rfl, loc_swap (put9_loc (loc_swap hlw) (by simp) _ _ _ _ _ _ _ _ _), put9_below hbw (by omega) _ _ _ _ _ _ _ _ _, put9_own (hown.below hb8) (by omega) _ _ _ _ _ _ _ _ _, rd_put9 hr8 g1 _ _ _ _ _ _ _ _ _, rd_put9 (rd_grown hra hb8) g2 _ _ _ _ _ _ _ _ _, by rw [put9_size]; exact Nat.le_trans hsr hb8.size⟩
              unfold put9 at hZ
              rw [← hZ]
              clear hZ hF hF8 hlw hl8
              have hrow : rowsOf (l.reverse.take (k + 1)) = Y ++ [mrow q] := by rw [HSY.out, if_pos HIM.out, ← HY.out]
              have hlen : (Y ++ [mrow q]).length = ny + 1 := by rw [List.length_append, HNY.out]; rfl
              have HROW := Lib.hid hrow; have HLEN := Lib.hid hlen
              clear hrow hlen f0 f1 f2 f3 f4 f5 f6 f7 f8 f9
              go_wp2_with fail
              go_roundw
              case rel =>
                have hk7 : ∀ q, (Value.slice Aw nx cw).ownBlock = some q → BB ≤ q ∧ q < wc0.heap.size := fun q hq => World.ownsRow.lt hown q hq
                exact ⟨k + 1, by go_num, by omega, P, M, S, E, R, L, P2, M2, S2, E2, R2, L2, cp, cm, cs, ce, cr, cl, gp, gm, gs, ge, gr, gl, nx, ny + 1, by rw [← HX.out]; exact HNX.out, by rw [HROW.out]; exact HLEN.out, hxk, by omega, by rw [← HX.out]; exact oZ, hlZ, by rw [← HX.out]; exact hrbZ, by rw [HROW.out]; exact hrZ, HZA.out, hz8, HFA.out, fun ad e => Nat.le_trans hsr (hf8 ad e), HPA.out, fun _ ad e h => Nat.lt_irrefl _ (Nat.lt_of_lt_of_le (hk7 _ h).2 (hf8 ad e)), hbZ, hsZ⟩
              case measure => simp [intOf]; omega
          · have hta := fun W (g : Rd wenc 5 W W.heap.size R' Y) => take6_no (m := q) HYO.out HNY.out (by omega) (by simpa using him) HZB.out W g
            have HTA := Lib.hid hta; have HIM := Lib.hid him
            clear hta him
            go_upto_region 15 with fail
            go_cut [10, 11] (fun v8 v9 wx => TkR 0 [] 0 8 wc0 v8 v9 wx)
            case first =>
              obtain ⟨lE, hE, hRR⟩ := Env.abs (w0 := wc0) (Below.refl _ _) hl
              (repeat unfold Loc at hRR)
              have hRg : ∀ X, Env wc0 lE X → X.cell? ⟨b, off + j * 10, none⟩ = some (.int .u8 q.kind) ∧ X.cell? ⟨b, off + j * 10 + 1, none⟩ = some (.int .i64 q.k) ∧ X.cell? ⟨b, off + j * 10 + 2, none⟩ = some (.int .i64 q.t) ∧ X.cell? ⟨b, off + j * 10 + 3, none⟩ = some (.int .i64 q.v) ∧ X.cell? ⟨b, off + j * 10 + 4, none⟩ = some (.int .i64 q.time) ∧ X.cell? ⟨b, off + j * 10 + 5, none⟩ = some (.int .i64 q.rk) ∧ X.cell? ⟨b, off + j * 10 + 6, none⟩ = some (.int .i64 q.rs) ∧ X.cell? ⟨b, off + j * 10 + 7, none⟩ = some (.int .i64 q.re) ∧ X.cell? ⟨b, off + j * 10 + 8, none⟩ = some (.int .i64 q.ra) ∧ X.cell? ⟨b, off + j * 10 + 9, none⟩ = some (.int .i64 q.rb) := fun X hX => ⟨(hX.1.cell (p := ⟨b, off + j * 10, none⟩) hbr).trans f0, (hX.1.cell (p := ⟨b, off + j * 10 + 1, none⟩) hbr).trans f1, (hX.1.cell (p := ⟨b, off + j * 10 + 2, none⟩) hbr).trans f2, (hX.1.cell (p := ⟨b, off + j * 10 + 3, none⟩) hbr).trans f3, (hX.1.cell (p := ⟨b, off + j * 10 + 4, none⟩) hbr).trans f4, (hX.1.cell (p := ⟨b, off + j * 10 + 5, none⟩) hbr).trans f5, (hX.1.cell (p := ⟨b, off + j * 10 + 6, none⟩) hbr).trans f6, (hX.1.cell (p := ⟨b, off + j * 10 + 7, none⟩) hbr).trans f7, (hX.1.cell (p := ⟨b, off + j * 10 + 8, none⟩) hbr).trans f8, (hX.1.cell (p := ⟨b, off + j * 10 + 9, none⟩) hbr).trans f9⟩
              refine wp_region_held_drew (S := Env wc0 lE) (by kernel_rfl) (by (first | assumption | exact Env.step (by assumption) (by assumption) | exact Env.old (by assumption) _ | exact Env.drew hE | exact hE | exact Env.drew (by assumption) | exact Env.drew (Env.old (by assumption) _) | ((repeat first | refine Env.far0 ?_ (by assumption) _ | refine Env.far1 ?_ (by assumption) _ | refine Env.farA ?_ (by assumption) _); assumption))) (fun hHeld => ?_)
              refine hTake 0 (by kernel_rfl) (by kernel_rfl) (by kernel_rfl) (by decide) (by assumption) ?_; (intro oi hoi; simp only [List.getElem?_toArray, List.getElem?_cons_zero] at hoi; obtain rfl := Option.some.inj hoi; clear hoi); refine ⟨rfl, ?_⟩; apply Exists.intro; refine ⟨?_, fun _ _ _ h => h, ?_⟩; (intro w hSw; (try dsimp only at hSw); go_simp; (try with_reducible rfl)); (try simp only [Act.put, List.setIfInBounds_toArray, List.set_cons_zero, List.set_cons_succ]); refine hTake 1 (by kernel_rfl) (by kernel_rfl) (by kernel_rfl) (by decide) (by assumption) ?_; (intro oi hoi; simp only [List.getElem?_toArray, List.getElem?_cons_succ, List.getElem?_cons_zero] at hoi; obtain rfl := Option.some.inj hoi; clear hoi); refine ⟨rfl, ?_⟩; apply Exists.intro; refine ⟨?_, fun _ _ _ h => h, ?_⟩; (intro w hSw; (try dsimp only at hSw); go_simp; (try with_reducible rfl)); (try simp only [Act.put, List.setIfInBounds_toArray, List.set_cons_zero, List.set_cons_succ]); refine hTake 2 (by kernel_rfl) (by kernel_rfl) (by kernel_rfl) (by decide) (by assumption) ?_; (intro oi hoi; simp only [List.getElem?_toArray, List.getElem?_cons_succ, List.getElem?_cons_zero] at hoi; obtain rfl := Option.some.inj hoi; clear hoi); refine ⟨rfl, ?_⟩; apply Exists.intro; refine ⟨?_, fun _ _ _ h => h, ?_⟩; (intro w hSw; (try dsimp only at hSw); go_simp; (try with_reducible rfl)); (try simp only [Act.put, List.setIfInBounds_toArray, List.set_cons_zero, List.set_cons_succ]); refine hTake 3 (by kernel_rfl) (by kernel_rfl) (by kernel_rfl) (by decide) (by assumption) ?_; (intro oi hoi; simp only [List.getElem?_toArray, List.getElem?_cons_succ, List.getElem?_cons_zero] at hoi; obtain rfl := Option.some.inj hoi; clear hoi); refine ⟨rfl, ?_⟩; apply Exists.intro; refine ⟨?_, fun _ _ _ h => h, ?_⟩; (intro w hSw; (try dsimp only at hSw); go_simp; (try with_reducible rfl)); (try simp only [Act.put, List.setIfInBounds_toArray, List.set_cons_zero, List.set_cons_succ]); refine hTake 4 (by kernel_rfl) (by kernel_rfl) (by kernel_rfl) (by decide) (by assumption) ?_; (intro oi hoi; simp only [List.getElem?_toArray, List.getElem?_cons_succ, List.getElem?_cons_zero] at hoi; obtain rfl := Option.some.inj hoi; clear hoi); refine ⟨rfl, ?_⟩; apply Exists.intro; refine ⟨?_, fun _ _ _ h => h, ?_⟩; (intro w hSw; (try dsimp only at hSw); go_simp; (try with_reducible rfl)); (try simp only [Act.put, List.setIfInBounds_toArray, List.set_cons_zero, List.set_cons_succ]); refine hTake 5 (by kernel_rfl) (by kernel_rfl) (by kernel_rfl) (by decide) (by assumption) ?_; (intro oi hoi; simp only [List.getElem?_toArray, List.getElem?_cons_succ, List.getElem?_cons_zero] at hoi; obtain rfl := Option.some.inj hoi; clear hoi); refine ⟨rfl, ?_⟩; apply Exists.intro; refine ⟨?_, fun _ _ _ h => h, ?_⟩; (intro w hSw; (try dsimp only at hSw); go_simp; (try with_reducible rfl)); (try simp only [Act.put, List.setIfInBounds_toArray, List.set_cons_zero, List.set_cons_succ]); refine hTake 6 (by kernel_rfl) (by kernel_rfl) (by kernel_rfl) (by decide) (by assumption) ?_; (intro oi hoi; simp only [List.getElem?_toArray, List.getElem?_cons_succ, List.getElem?_cons_zero] at hoi; obtain rfl := Option.some.inj hoi; clear hoi); refine ⟨rfl, ?_⟩; apply Exists.intro; refine ⟨?_, fun _ _ _ h => h, ?_⟩; (intro w hSw; (try dsimp only at hSw); go_simp; (try with_reducible rfl)); (try simp only [Act.put, List.setIfInBounds_toArray, List.set_cons_zero, List.set_cons_succ]); refine hTake 7 (by kernel_rfl) (by kernel_rfl) (by kernel_rfl) (by decide) (by assumption) ?_; (intro oi hoi; simp only [List.getElem?_toArray, List.getElem?_cons_succ, List.getElem?_cons_zero] at hoi; obtain rfl := Option.some.inj hoi; clear hoi); refine ⟨rfl, ?_⟩; apply Exists.intro; refine ⟨?_, fun _ _ _ h => h, ?_⟩; (intro w hSw; (try dsimp only at hSw); go_simp; (try with_reducible rfl)); (try simp only [Act.put, List.setIfInBounds_toArray, List.set_cons_zero, List.set_cons_succ]); refine hTake 8 (by kernel_rfl) (by kernel_rfl) (by kernel_rfl) (by decide) (by assumption) ?_; (intro oi hoi; simp only [List.getElem?_toArray, List.getElem?_cons_succ, List.getElem?_cons_zero] at hoi; obtain rfl := Option.some.inj hoi; clear hoi); refine ⟨rfl, ?_⟩; apply Exists.intro; refine ⟨?_, fun _ _ _ h => h, ?_⟩; (intro w hSw; (try dsimp only at hSw); go_simp; (try with_reducible rfl)); (try simp only [Act.put, List.setIfInBounds_toArray, List.set_cons_zero, List.set_cons_succ])
              refine wpAnyH_ready (rs := [9, 13]) (by kernel_rfl) (by simp) ?_
              refine hCons 9 (by decide) ?_ (hCons 13 (by decide) ?_ AllReadyH.nil)
              · (intro oi hoi; simp only [List.getElem?_toArray, List.getElem?_cons_succ, List.getElem?_cons_zero] at hoi; obtain rfl := Option.some.inj hoi; clear hoi); intro K hK
                go_simp
                go_at_call 41
                refine (HTA.out wc0.drew (Rd.drew hrb)).mono ?_
                rintro r w5 ⟨P2, M2, S2, E2, R2, L2, gp, gm, gs, ge, gr, gl, rfl, hr2, hz2, hf2, hb5⟩
                have hEhb5 := Env.step hb5 (by assumption); (try (have hqhb5 := (by with_reducible first | exact Loc.below hb5 (Loc.new (Loc.nil _) _ _) | exact Loc.below hb5 (Loc.drew (Loc.new (Loc.nil _) _ _)) | exact Loc.below hb5 (by assumption : Loc _ [_])); (repeat rw [World.size_drew] at hqhb5); (repeat rw [World.size_alloc] at hqhb5); have hrhb5 := hqhb5; (repeat unfold Loc at hrhb5)))
                (refine hK.out _ _ (by (first | assumption | exact Env.step (by assumption) (by assumption) | exact Env.old (by assumption) _ | exact Env.drew hE | exact hE | exact Env.drew (by assumption) | exact Env.drew (Env.old (by assumption) _) | ((repeat first | refine Env.far0 ?_ (by assumption) _ | refine Env.far1 ?_ (by assumption) _ | refine Env.farA ?_ (by assumption) _); assumption))) (fun hHeld => ?_); clear hK K; (try simp only [Act.put, List.setIfInBounds_toArray, List.set_cons_zero, List.set_cons_succ]))
                refine hTake 10 (by kernel_rfl) (by kernel_rfl) (by kernel_rfl) (by decide) (by assumption) ?_; (intro oi hoi; simp only [List.getElem?_toArray, List.getElem?_cons_succ, List.getElem?_cons_zero] at hoi; obtain rfl := Option.some.inj hoi; clear hoi); refine ⟨rfl, ?_⟩; apply Exists.intro; refine ⟨?_, fun _ _ _ h => h, ?_⟩; (intro w hSw; (try dsimp only at hSw); go_simp; (try with_reducible rfl)); (try simp only [Act.put, List.setIfInBounds_toArray, List.set_cons_zero, List.set_cons_succ]); refine hTake 11 (by kernel_rfl) (by kernel_rfl) (by kernel_rfl) (by decide) (by assumption) ?_; (intro oi hoi; simp only [List.getElem?_toArray, List.getElem?_cons_succ, List.getElem?_cons_zero] at hoi; obtain rfl := Option.some.inj hoi; clear hoi); refine ⟨rfl, ?_⟩; apply Exists.intro; refine ⟨?_, fun _ _ _ h => h, ?_⟩; (intro w hSw; (try dsimp only at hSw); go_simp; (try with_reducible rfl)); (try simp only [Act.put, List.setIfInBounds_toArray, List.set_cons_zero, List.set_cons_succ]); refine hTake 12 (by kernel_rfl) (by kernel_rfl) (by kernel_rfl) (by decide) (by assumption) ?_; (intro oi hoi; simp only [List.getElem?_toArray, List.getElem?_cons_succ, List.getElem?_cons_zero] at hoi; obtain rfl := Option.some.inj hoi; clear hoi); refine ⟨rfl, ?_⟩; apply Exists.intro; refine ⟨?_, fun _ _ _ h => h, ?_⟩; (intro w hSw; (try dsimp only at hSw); go_simp; (try with_reducible rfl)); (try simp only [Act.put, List.setIfInBounds_toArray, List.set_cons_zero, List.set_cons_succ])
                refine hOnly 13 (by kernel_rfl) (by decide) ?_; (intro oi hoi; simp only [List.getElem?_toArray, List.getElem?_cons_succ, List.getElem?_cons_zero] at hoi; obtain rfl := Option.some.inj hoi; clear hoi); intro K hK; go_simp
                (refine hK.out _ _ (by (first | assumption | exact Env.step (by assumption) (by assumption) | exact Env.old (by assumption) _ | exact Env.drew hE | exact hE | exact Env.drew (by assumption) | exact Env.drew (Env.old (by assumption) _) | ((repeat first | refine Env.far0 ?_ (by assumption) _ | refine Env.far1 ?_ (by assumption) _ | refine Env.farA ?_ (by assumption) _); assumption))) (fun hHeld => ?_); clear hK K; (try simp only [Act.put, List.setIfInBounds_toArray, List.set_cons_zero, List.set_cons_succ]))
                refine hOnly 14 (by kernel_rfl) (by decide) ?_; (intro oi hoi; simp only [List.getElem?_toArray, List.getElem?_cons_succ, List.getElem?_cons_zero] at hoi; obtain rfl := Option.some.inj hoi; clear hoi); intro K hK; go_simp
                (refine hK.out _ _ (by (first | assumption | exact Env.step (by assumption) (by assumption) | exact Env.old (by assumption) _ | exact Env.drew hE | exact hE | exact Env.drew (by assumption) | exact Env.drew (Env.old (by assumption) _) | ((repeat first | refine Env.far0 ?_ (by assumption) _ | refine Env.far1 ?_ (by assumption) _ | refine Env.farA ?_ (by assumption) _); assumption))) (fun hHeld => ?_); clear hK K; (try simp only [Act.put, List.setIfInBounds_toArray, List.set_cons_zero, List.set_cons_succ]))
                refine hTake 15 (by kernel_rfl) (by kernel_rfl) (by kernel_rfl) (by decide) (by assumption) ?_; (intro oi hoi; simp only [List.getElem?_toArray, List.getElem?_cons_succ, List.getElem?_cons_zero] at hoi; obtain rfl := Option.some.inj hoi; clear hoi); refine ⟨rfl, ?_⟩; apply Exists.intro; refine ⟨?_, fun _ _ _ h => h, ?_⟩; (intro w hSw; (try dsimp only at hSw); go_simp; (try with_reducible rfl)); (try simp only [Act.put, List.setIfInBounds_toArray, List.set_cons_zero, List.set_cons_succ])
                refine wpAnyH_done (by kernel_rfl) ?_ _
                go_wp2_with fail
                go_meet
                case rel => exact tkr_late (below_drew (Below.refl _ _)) hb5 hr2 hz2 hf2
              · (intro oi hoi; simp only [List.getElem?_toArray, List.getElem?_cons_succ, List.getElem?_cons_zero] at hoi; obtain rfl := Option.some.inj hoi; clear hoi); intro K hK
                go_simp
                (refine hK.out _ _ (by (first | assumption | exact Env.step (by assumption) (by assumption) | exact Env.old (by assumption) _ | exact Env.drew hE | exact hE | exact Env.drew (by assumption) | exact Env.drew (Env.old (by assumption) _) | ((repeat first | refine Env.far0 ?_ (by assumption) _ | refine Env.far1 ?_ (by assumption) _ | refine Env.farA ?_ (by assumption) _); assumption))) (fun hHeld => ?_); clear hK K; (try simp only [Act.put, List.setIfInBounds_toArray, List.set_cons_zero, List.set_cons_succ]))
                refine hOnly 9 (by kernel_rfl) (by decide) ?_; (intro oi hoi; simp only [List.getElem?_toArray, List.getElem?_cons_succ, List.getElem?_cons_zero] at hoi; obtain rfl := Option.some.inj hoi; clear hoi); intro K hK; go_simp
                go_at_call 41
                refine (HTA.out _ (rd_grown hrb (below_new (below_drew (Below.refl _ _)) _))).mono ?_
                rintro r w5 ⟨P2, M2, S2, E2, R2, L2, gp, gm, gs, ge, gr, gl, rfl, hr2, hz2, hf2, hb5⟩
                have hEhb5 := Env.step hb5 (by assumption); (try (have hqhb5 := (by with_reducible first | exact Loc.below hb5 (Loc.new (Loc.nil _) _ _) | exact Loc.below hb5 (Loc.drew (Loc.new (Loc.nil _) _ _)) | exact Loc.below hb5 (by assumption : Loc _ [_])); (repeat rw [World.size_drew] at hqhb5); (repeat rw [World.size_alloc] at hqhb5); have hrhb5 := hqhb5; (repeat unfold Loc at hrhb5)))
                (refine hK.out _ _ (by (first | assumption | exact Env.step (by assumption) (by assumption) | exact Env.old (by assumption) _ | exact Env.drew hE | exact hE | exact Env.drew (by assumption) | exact Env.drew (Env.old (by assumption) _) | ((repeat first | refine Env.far0 ?_ (by assumption) _ | refine Env.far1 ?_ (by assumption) _ | refine Env.farA ?_ (by assumption) _); assumption))) (fun hHeld => ?_); clear hK K; (try simp only [Act.put, List.setIfInBounds_toArray, List.set_cons_zero, List.set_cons_succ]))
                refine hTake 10 (by kernel_rfl) (by kernel_rfl) (by kernel_rfl) (by decide) (by assumption) ?_; (intro oi hoi; simp only [List.getElem?_toArray, List.getElem?_cons_succ, List.getElem?_cons_zero] at hoi; obtain rfl := Option.some.inj hoi; clear hoi); refine ⟨rfl, ?_⟩; apply Exists.intro; refine ⟨?_, fun _ _ _ h => h, ?_⟩; (intro w hSw; (try dsimp only at hSw); go_simp; (try with_reducible rfl)); (try simp only [Act.put, List.setIfInBounds_toArray, List.set_cons_zero, List.set_cons_succ]); refine hTake 11 (by kernel_rfl) (by kernel_rfl) (by kernel_rfl) (by decide) (by assumption) ?_; (intro oi hoi; simp only [List.getElem?_toArray, List.getElem?_cons_succ, List.getElem?_cons_zero] at hoi; obtain rfl := Option.some.inj hoi; clear hoi); refine ⟨rfl, ?_⟩; apply Exists.intro; refine ⟨?_, fun _ _ _ h => h, ?_⟩; (intro w hSw; (try dsimp only at hSw); go_simp; (try with_reducible rfl)); (try simp only [Act.put, List.setIfInBounds_toArray, List.set_cons_zero, List.set_cons_succ]); refine hTake 12 (by kernel_rfl) (by kernel_rfl) (by kernel_rfl) (by decide) (by assumption) ?_; (intro oi hoi; simp only [List.getElem?_toArray, List.getElem?_cons_succ, List.getElem?_cons_zero] at hoi; obtain rfl := Option.some.inj hoi; clear hoi); refine ⟨rfl, ?_⟩; apply Exists.intro; refine ⟨?_, fun _ _ _ h => h, ?_⟩; (intro w hSw; (try dsimp only at hSw); go_simp; (try with_reducible rfl)); (try simp only [Act.put, List.setIfInBounds_toArray, List.set_cons_zero, List.set_cons_succ])
                refine hOnly 14 (by kernel_rfl) (by decide) ?_; (intro oi hoi; simp only [List.getElem?_toArray, List.getElem?_cons_succ, List.getElem?_cons_zero] at hoi; obtain rfl := Option.some.inj hoi; clear hoi); intro K hK; go_simp
                (refine hK.out _ _ (env_put9 (by assumption) (Nat.le_refl _) _ _ _ _ _ _ _ _ _ (fun q hq => Nat.ne_of_lt (Env.lt2 hE q hq))) (fun hHeld => ?_); clear hK K; (try simp only [Act.put, List.setIfInBounds_toArray, List.set_cons_zero, List.set_cons_succ]))
                refine hTake 15 (by kernel_rfl) (by kernel_rfl) (by kernel_rfl) (by decide) (by assumption) ?_; (intro oi hoi; simp only [List.getElem?_toArray, List.getElem?_cons_succ, List.getElem?_cons_zero] at hoi; obtain rfl := Option.some.inj hoi; clear hoi); refine ⟨rfl, ?_⟩; apply Exists.intro; refine ⟨?_, fun _ _ _ h => h, ?_⟩; (intro w hSw; (try dsimp only at hSw); go_simp; (try with_reducible rfl)); (try simp only [Act.put, List.setIfInBounds_toArray, List.set_cons_zero, List.set_cons_succ])
                refine wpAnyH_done (by kernel_rfl) ?_ _
                go_wp2_with fail
                go_meet
                case rel => exact tkr_first (below_new (below_drew (Below.refl _ _)) _) ((Loc.nil _).new [.int .u8 0, .int .i64 0, .int .i64 0, .slice none 0 0, .slice none 0 0, .slice none 0 0, .slice none 0 0, .slice none 0 0, .slice none 0 0] 67) (by simp) hb5 hr2 hz2 hf2
            case rest =>
              obtain ⟨c8, P2, M2, S2, E2, R2, L2, gp, gm, gs, ge, gr, gl, rfl, rfl, hc8, hl8, hr8, hz8, hf8, hb8⟩ := hcut
              have hrow : rowsOf (l.reverse.take (k + 1)) = rowsOf (l.reverse.take k) := by rw [HSY.out, if_neg HIM.out, List.append_nil]
              have HROW := Lib.hid hrow
              clear hrow f0 f1 f2 f3 f4 f5 f6 f7 f8 f9
              go_wp2_with fail
              go_roundw
              case rel => exact ⟨k + 1, by go_num, by omega, HST2.out.more hb8 rfl HROW.out (Nat.le_refl _) (Nat.le_succ _)⟩
              case measure => simp [intOf]; omega
      · obtain rfl : n = k := by omega
        have d5 : decide ((n : Int) < (n : Int)) = false := by simp
        have d5' : decide (n < n) = false := by simp
        obtain ⟨P, M, S, E, R, L, P', M', S', E', R', L', cp, cm, cs, ce, cr, cl, cp', cm', cs', ce', cr', cl', nx, ny, hnx, hny, hxk, hyk, hown, hl, hra, hrb, hza, hzb, hfa, hfb, hpa, hpb, hb, hsr⟩ := hst
        have htk : l.take n = l := List.take_of_length_le (by rw [HLN.out]; exact Nat.le_refl _)
        have htr : l.reverse.take n = l.reverse := List.take_of_length_le (by rw [List.length_reverse, HLN.out]; exact Nat.le_refl _)
        rw [htk] at hnx hown hra
        rw [htr] at hny hrb
        obtain ⟨X, hX⟩ : ∃ X, X = rowsOf l := ⟨_, rfl⟩
        obtain ⟨Y, hY⟩ : ∃ Y, Y = rowsOf l.reverse := ⟨_, rfl⟩
        rw [← hX] at hnx hown hra
        rw [← hY] at hny hrb
        have hpm : sortL wlt w0 Y = sortL wlt w0 X := by rw [hX, hY]; exact sortL_congr wsto w0 (rowsOf_rev l)
        obtain ⟨Q, hQ⟩ : ∃ Q, Q = sortL wlt w0 X := ⟨_, rfl⟩
        have s1 : wsrt X = (Q, 0) := by unfold wsrt; rw [if_neg (by rw [hnx]; omega), hQ]
        have s2 : wsrt Y = (Q, 0) := by unfold wsrt; rw [if_neg (by rw [hny]; omega), hpm, hQ]
        have s3 : wsme X Y = (true, 0) := by unfold wsme; rw [if_neg (by rw [hnx, hny]; omega)]; unfold sameW; rw [hpm, show listEq (sortL wlt w0 X) (sortL wlt w0 X) = true from decide_eq_true rfl]
        obtain ⟨q1, hq1⟩ : ∃ q, Q.length = q := ⟨_, rfl⟩
        have hq2 : q1 ≤ 4000 := by rw [← hq1]; have := wsrt_len X; rwa [s1] at this
        have c1 := fun W h => rows_is R cr nx X W hnx hza.2.2.2.2.1 (by omega) h
        have c2 := fun W h => rows_is R' cr' ny Y W hny hzb.2.2.2.2.1 (by omega) h
        have c3 := fun W h h' => same_is R R' cr cr' nx ny X Y W hnx hny hza.2.2.2.2.1 hzb.2.2.2.2.1 (by omega) (by omega) h h'
        rw [s1] at c1
        rw [s2] at c2
        rw [s3] at c3
        obtain ⟨Aw, cw, rfl, -, -⟩ := own_shape_z hown hnx
        have hrw := Own.rd wenc_len hown
        have C1 := Lib.hid c1; have C2 := Lib.hid c2; have C3 := Lib.hid c3; have HQ1 := Lib.hid hq1; have HNX := Lib.hid hnx
        clear c1 c2 c3 s1 s2 s3 hpm hQ hX hY htk htr hq1 hnx hny hza hzb hfa hfb hpa hpb hlt
        have hF := hl
        (repeat unfold Loc at hF)
        go_wp2_with fail
        go_at_call 48
        refine (C1.out _ hra).mono ?_
        rintro r w4 ⟨v4, rfl, own4, hb4⟩
        obtain ⟨A4, e4, rfl, -, z4⟩ := own_shape_z own4 HQ1.out
        have hl4 := hl.below hb4
        have hF4 := hl4
        (repeat unfold Loc at hF4)
        clear hF hl z4
        go_wp2_with fail
        go_at_call 48
        refine (C2.out _ (rd_grown hrb hb4)).mono ?_
        rintro r w5 ⟨v5, rfl, own5, hb5⟩
        obtain ⟨A5, e5, rfl, -, z5⟩ := own_shape_z own5 HQ1.out
        have hl5 := hl4.below hb5
        have hF5 := hl5
        (repeat unfold Loc at hF5)
        clear hF4 hl4 z5
        have hb45 := below_then hb4 hb5
        go_wp2_with fail
        go_at_call 49
        refine (C3.out _ (rd_grown hra hb45) (rd_grown hrb hb45)).mono ?_
        rintro r w6 ⟨rfl, hb6⟩
        have hl6 := hl5.below hb6
        have hF6 := hl6
        (repeat unfold Loc at hF6)
        clear hF5 hl5
        have hb46 := below_then hb45 hb6
        go_wp2_with fail
        go_at_call 50
        refine (rsame_any _ _ _ _ nx nx X X _ (rd_grown hra hb46) (rd_grown (hrw.more (by first | exact Nat.le_refl _ | omega)) hb46) HNX.out HNX.out (by omega)).mono ?_
        rw [show listEq X X = true from decide_eq_true rfl]
        rintro r w7 ⟨rfl, hb7⟩
        go_wp2_with fail
        go_at_call 50
        refine (rsame_any _ _ _ _ q1 q1 Q Q _ (rd_grown (Own.rd wenc_len own4) (below_then (below_then hb5 hb6) hb7)) (rd_grown (Own.rd wenc_len own5) (below_then hb6 hb7)) HQ1.out HQ1.out (by omega)).mono ?_
        rw [show listEq Q Q = true from decide_eq_true rfl]
        rintro r w8 ⟨rfl, hb8⟩
        go_wp2
        go_ret
        exact ⟨rfl, below_then (below_then (below_then hb hb46) hb7) hb8⟩
end Go.Proofs.Ytffehibdeogjeaa
