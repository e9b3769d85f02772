/- The walk of SinkNames; printed by wip/gen_sinknames.py. No condition. -/
import Derived.Test.YtffehibdeogjeaaSinkNEnd
import Derived.Test.YtffehibdeogjeaaAppendL2
import Derived.Test.YtffehibdeogjeaaSinkNew
import Derived.Deep.DeepCutAuto
import Derived.Deep.CutRange
namespace Go.Proofs.Ytffehibdeogjeaa
open Go.RowKit Go.ChangeShapes Go.WideShapes Go.ChangeAt Go.Deep

theorem frame_abs {P : Program} {c : Code} {Q : Exit → Act → World → Prop} {l : List Value} {w : World} (h : ∀ T : Array Value, T = l.toArray → c.wp P Q ⟨T, []⟩ w) : c.wp P Q ⟨l.toArray, []⟩ w := h _ rfl
theorem loc_cat {W : World} : ∀ {l1 l2 : List (Nat × List Value)}, Loc W l1 → Loc W l2 → Loc W (l1 ++ l2)
  | [], _, _, h => h
  | (_, _) :: _, _, ⟨h1, h2, h3, h4⟩, h => ⟨h1, h2, h3, loc_cat h4 h⟩
theorem rd_take2 {α : Type} {enc : α → List Value} {sz : Nat} {w : World} {B : Nat} {A : Option Addr} {x y : α} {l : List α} (h : Rd enc sz w B A (x :: y :: l)) : Rd enc sz w B A [x, y] := fun _ => by
  obtain ⟨b, off, e, hb, hc⟩ := h (by simp)
  refine ⟨b, off, e, hb, fun k z hz => hc k z ?_⟩
  match k, hz with
  | 0, hz => exact hz
  | 1, hz => exact hz
set_option maxHeartbeats 64000000 in
set_option maxRecDepth 100000 in
theorem sinkNames_walk (w : World) : Calls Try.prog 20 #[] w fun r w' => r = .returned (.bool true) ∧ Below w.heap.size w w' := by
  have HNEW := Lib.hid (fun (b : Bool) W => new34_any b W)
  have HTA := Lib.hid (fun W => tkA W); have HTB := Lib.hid (fun W => tkB W); have HTC := Lib.hid (fun W => tkC W); have HTD := Lib.hid (fun W => tkD W); have HTEE := Lib.hid (fun W => tkEE W); have HTF := Lib.hid (fun W => tkF W); have HTG := Lib.hid (fun W => tkG W); have HTH := Lib.hid (fun W => tkH W)
  obtain ⟨M1, hm1, hr1⟩ := make_rows 4001 4001 rfl (by omega)
  obtain ⟨M2, hm2, hr2⟩ := make_rows 4000 4000 rfl (by omega)
  obtain ⟨M3, hm3, hr3⟩ := make_recs34 4001 4001 rfl (by omega)
  have c41 := fun (A : Addr) (W : World) (h : Rd wenc 5 W W.heap.size (some A) (List.replicate 4001 z5)) => rows_any (some A) 4001 4001 (List.replicate 4001 z5) W List.length_replicate (by intro e; cases e) (by omega) h
  rw [if_pos (by omega), if_pos (by omega)] at c41
  have c40 := fun (A : Addr) (W : World) (h : Rd wenc 5 W W.heap.size (some A) (List.replicate 4000 z5)) => rows_any (some A) 4000 4000 (List.replicate 4000 z5) W List.length_replicate (by intro e; cases e) (by omega) h
  rw [if_neg (by omega), if_neg (by omega)] at c40
  have hsl : (sortL wlt w0 (List.replicate 4000 z5)).length = 4000 := by rw [sortL_length wsto, List.length_replicate]
  have d41 := fun (A : Addr) (W : World) (h : Rd renc 3 W W.heap.size (some A) (List.replicate 4001 z3)) => late_any (some A) 4001 4001 (List.replicate 4001 z3) W List.length_replicate (by intro e; cases e) (by omega) h
  rw [if_pos (by omega), if_pos (by omega)] at d41
  have s41 := fun (A : Addr) (W : World) (h : Rd wenc 5 W W.heap.size (some A) (List.replicate 4001 z5)) => same_is none (some A) 0 4001 0 4001 [] (List.replicate 4001 z5) W rfl List.length_replicate (fun _ => rfl) (by intro e; cases e) (by omega) (by omega) Rd.nil h
  rw [show wsme [] (List.replicate 4001 z5) = (false, 4) by unfold wsme; rw [if_pos (.inr (by rw [List.length_replicate]; omega))]] at s41
  have c6 := fun (A : Addr) (c : Nat) (W : World) (h : Rd wenc 5 W W.heap.size (some A) ([⟨0, -9, 1, 0, 0⟩, ⟨-1, 1, 0, 0, 0⟩, ⟨1, 0, 0, -5, -5⟩, ⟨0, 0, 0, 1, -1⟩, ⟨0, 0, 0, 0, 1⟩, ⟨0, 0, 0, 0, 0⟩] : List Rw)) => rows_any (some A) c 6 ([⟨0, -9, 1, 0, 0⟩, ⟨-1, 1, 0, 0, 0⟩, ⟨1, 0, 0, -5, -5⟩, ⟨0, 0, 0, 1, -1⟩, ⟨0, 0, 0, 0, 1⟩, ⟨0, 0, 0, 0, 0⟩] : List Rw) W rfl (by intro e; cases e) (by omega) h
  rw [if_neg (by omega), if_neg (by omega), show sortL wlt w0 ([⟨0, -9, 1, 0, 0⟩, ⟨-1, 1, 0, 0, 0⟩, ⟨1, 0, 0, -5, -5⟩, ⟨0, 0, 0, 1, -1⟩, ⟨0, 0, 0, 0, 1⟩, ⟨0, 0, 0, 0, 0⟩] : List Rw) = [⟨0, 0, 0, 0, 0⟩, ⟨0, 0, 0, 0, 1⟩, ⟨0, 0, 0, 1, -1⟩, ⟨1, 0, 0, -5, -5⟩, ⟨-1, 1, 0, 0, 0⟩, ⟨0, -9, 1, 0, 0⟩] by decide] at c6
  have c4 := fun (A : Addr) (c : Nat) (W : World) (h : Rd renc 3 W W.heap.size (some A) ([⟨-1, 1, 0⟩, ⟨1, 0, -1⟩, ⟨0, 0, 1⟩, ⟨0, 0, 0⟩] : List Rc)) => late_any (some A) c 4 ([⟨-1, 1, 0⟩, ⟨1, 0, -1⟩, ⟨0, 0, 1⟩, ⟨0, 0, 0⟩] : List Rc) W rfl (by intro e; cases e) (by omega) h
  rw [if_neg (by omega), if_neg (by omega), show sortL rlt r0 ([⟨-1, 1, 0⟩, ⟨1, 0, -1⟩, ⟨0, 0, 1⟩, ⟨0, 0, 0⟩] : List Rc) = [⟨0, 0, 0⟩, ⟨0, 0, 1⟩, ⟨1, 0, -1⟩, ⟨-1, 1, 0⟩] by decide] at c4
  have sa := fun (A A' : Addr) (c c' : Nat) (W : World) (h : Rd wenc 5 W W.heap.size (some A) ([⟨0, 0, 0, 0, 0⟩, ⟨0, 0, 0, 0, 1⟩] : List Rw)) (h' : Rd wenc 5 W W.heap.size (some A') ([⟨0, 0, 0, 0, 1⟩, ⟨0, 0, 0, 0, 0⟩] : List Rw)) => same_is (some A) (some A') c c' 2 2 ([⟨0, 0, 0, 0, 0⟩, ⟨0, 0, 0, 0, 1⟩] : List Rw) ([⟨0, 0, 0, 0, 1⟩, ⟨0, 0, 0, 0, 0⟩] : List Rw) W rfl rfl (by intro e; cases e) (by intro e; cases e) (by omega) (by omega) h h'
  rw [show wsme ([⟨0, 0, 0, 0, 0⟩, ⟨0, 0, 0, 0, 1⟩] : List Rw) ([⟨0, 0, 0, 0, 1⟩, ⟨0, 0, 0, 0, 0⟩] : List Rw) = (true, 0) by decide] at sa
  have sb := fun (A A' : Addr) (c c' : Nat) (W : World) (h : Rd wenc 5 W W.heap.size (some A) ([⟨0, 0, 0, 0, 0⟩, ⟨0, 0, 0, 0, 0⟩] : List Rw)) (h' : Rd wenc 5 W W.heap.size (some A') ([⟨0, 0, 0, 0, 0⟩, ⟨0, 0, 0, 0, 1⟩] : List Rw)) => same_is (some A) (some A') c c' 2 2 ([⟨0, 0, 0, 0, 0⟩, ⟨0, 0, 0, 0, 0⟩] : List Rw) ([⟨0, 0, 0, 0, 0⟩, ⟨0, 0, 0, 0, 1⟩] : List Rw) W rfl rfl (by intro e; cases e) (by intro e; cases e) (by omega) (by omega) h h'
  rw [show wsme ([⟨0, 0, 0, 0, 0⟩, ⟨0, 0, 0, 0, 0⟩] : List Rw) ([⟨0, 0, 0, 0, 0⟩, ⟨0, 0, 0, 0, 1⟩] : List Rw) = (false, 0) by decide] at sb
  have HM1 := Lib.hid hm1; have HM2 := Lib.hid hm2; have HM3 := Lib.hid hm3; have HR1 := Lib.hid hr1; have HR2 := Lib.hid hr2; have HR3 := Lib.hid hr3
  have C41 := Lib.hid c41; have C40 := Lib.hid c40; have HSL := Lib.hid hsl; have D41 := Lib.hid d41; have S41 := Lib.hid s41; have C6 := Lib.hid c6; have C4 := Lib.hid c4; have SA := Lib.hid sa; have SB := Lib.hid sb
  clear hm1 hm2 hm3 hr1 hr2 hr3 c41 c40 hsl d41 s41 c6 c4 sa sb
  go_enter Try.func20, Try.ntmps20
  go_wp2_with fail
  go_at_call 71
  refine (span34_any _ _ _).mono ?_
  rintro r w1 ⟨rfl, hb1⟩
  go_upto_region 3 with (fail)
  obtain ⟨p1, hp1⟩ : ∃ p, w1.heap.size = p := ⟨_, rfl⟩
  obtain ⟨W, hZ, hl, hb⟩ : ∃ Z, Z = (w1.alloc (.cells #[.int .u8 3, .int .i64 0, .int .i64 0, .int .i64 0, .int .i64 0, .int .i64 0, .int .i64 0, .int .i64 10, .int .i64 0, .int .i64 0] 74)).alloc (.cells #[.int .u8 4, .int .i64 1, .int .i64 0, .int .i64 0, .int .i64 0, .int .i64 0, .int .i64 0, .int .i64 0, .int .i64 0, .int .i64 0] 74) ∧ Loc Z [(p1, [.int .u8 3, .int .i64 0, .int .i64 0, .int .i64 0, .int .i64 0, .int .i64 0, .int .i64 0, .int .i64 10, .int .i64 0, .int .i64 0]), (p1 + 1, [.int .u8 4, .int .i64 1, .int .i64 0, .int .i64 0, .int .i64 0, .int .i64 0, .int .i64 0, .int .i64 0, .int .i64 0, .int .i64 0])] ∧ Below w.heap.size w Z := by
    refine ⟨_, rfl, ?_, below_new (below_new hb1 _) _⟩
    have g := ((Loc.nil w1).new [.int .u8 3, .int .i64 0, .int .i64 0, .int .i64 0, .int .i64 0, .int .i64 0, .int .i64 0, .int .i64 10, .int .i64 0, .int .i64 0] 74).new [.int .u8 4, .int .i64 1, .int .i64 0, .int .i64 0, .int .i64 0, .int .i64 0, .int .i64 0, .int .i64 0, .int .i64 0, .int .i64 0] 74
    rw [World.size_alloc, hp1] at g
    obtain ⟨a1, a2, a3, e1, e2, e3, -⟩ := g
    exact ⟨e1, e2, e3, a1, a2, a3, trivial⟩
  have hp : w.heap.size ≤ p1 := by rw [← hp1]; exact hb1.size
  rw [← hZ]
  simp only [hp1]
  clear hZ hb1 hp1
  go_upto_region 3 with (fail)
  go_cut [3, 4] from 45 to 50 (fun _ v9 wx => v9 = .int .i64 8 ∧ Below W.heap.size W wx)
  case first =>
    have hF := hl
    (repeat unfold Loc at hF)
    go_wp2_with fail
    go_at_call 41
    refine (HTA.out _).mono ?_
    rintro r w6 ⟨P2, M2, S2, E2, R2, L2, gp, gm, gs, ge, gr, gl, rfl, hb2⟩
    go_wp2_with fail
    go_meet
    case rel => exact ⟨rfl, tke_box (Below.refl _ _) hb2⟩
  case rest =>
  obtain ⟨rfl, hbn⟩ := hcut
  replace hl := hl.below hbn
  replace hb := below_then hb hbn
  clear hbn
  clear W
  obtain ⟨W, rfl⟩ : ∃ x, x = wc := ⟨_, rfl⟩
  go_upto_region 4 with (fail)
  go_cut [5, 6] from 51 to 57 (fun _ v9 wx => v9 = .int .i64 2 ∧ Below W.heap.size W wx)
  case first =>
    have hF := hl
    (repeat unfold Loc at hF)
    go_wp2_with fail
    go_at_call 41
    refine (HTB.out _).mono ?_
    rintro r w6 ⟨P2, M2, S2, E2, R2, L2, gp, gm, gs, ge, gr, gl, rfl, hb2⟩
    go_wp2_with fail
    go_meet
    case rel => exact ⟨rfl, tke_box (Below.refl _ _) hb2⟩
  case rest =>
  obtain ⟨rfl, hbn⟩ := hcut
  replace hl := hl.below hbn
  replace hb := below_then hb hbn
  clear hbn
  clear W
  obtain ⟨W, rfl⟩ : ∃ x, x = wc := ⟨_, rfl⟩
  go_upto_region 5 with (fail)
  go_cut [7, 8] from 58 to 63 (fun _ v9 wx => v9 = .int .i64 8 ∧ Below W.heap.size W wx)
  case first =>
    obtain ⟨lE, hE, hRR⟩ := Env.abs (w0 := W) (Below.refl _ _) hl
    (repeat unfold Loc at hRR)
    refine frame_abs ?_
    intro T hT
    have hsz : T.size = 325 := by rw [hT]; rfl
    have hs1 : T.getD 1 undef = .pointer (some ⟨p1, 0, none⟩) := by rw [hT]; rfl
    have hs2 : T.getD 2 undef = .pointer (some ⟨p1 + 1, 0, none⟩) := by rw [hT]; rfl
    have HT := Lib.hid hT
    clear hT
    have hgs := getD_same; have hgn := getD_other
    refine wp_region_held_drew (S := Env W lE) (by kernel_rfl) (by (first | assumption | exact Env.step (by assumption) (by assumption) | exact Env.old (by assumption) _ | exact Env.drew hE | exact hE | exact Env.drew (by assumption) | exact Env.drew (Env.old (by assumption) _) | ((repeat first | refine Env.far0 ?_ (by assumption) _ | refine Env.far1 ?_ (by assumption) _ | refine Env.farA ?_ (by assumption) _); assumption))) (fun hHeld => ?_)
    refine hTake 1 (by kernel_rfl) (by kernel_rfl) (by kernel_rfl) (by decide) (by assumption) ?_; (intro oi hoi; simp only [List.getElem?_toArray, List.getElem?_cons_succ, List.getElem?_cons_zero] at hoi; obtain rfl := Option.some.inj hoi; clear hoi); refine ⟨rfl, ?_⟩; apply Exists.intro; refine ⟨?_, fun _ _ _ h => h, ?_⟩; (intro w hSw; (try dsimp only at hSw); go_simp; (try with_reducible rfl)); (try simp only [Act.put])
    refine wpAnyH_ready (rs := [0, 6]) (by kernel_rfl) (by simp) ?_
    refine hCons 0 (by decide) ?_ (hCons 6 (by decide) ?_ AllReadyH.nil)
    · (intro oi hoi; simp only [List.getElem?_toArray, List.getElem?_cons_zero] at hoi; obtain rfl := Option.some.inj hoi; clear hoi); intro K hK
      go_simp
      go_at_call 44
      refine (HNEW.out _ _).mono ?_
      rintro r w5 ⟨rfl, hb1⟩
      have hEhb1 := Env.step hb1 (by assumption); (try (have hqhb1 := (by with_reducible first | exact Loc.below hb1 (Loc.new (Loc.nil _) _ _) | exact Loc.below hb1 (Loc.drew (Loc.new (Loc.nil _) _ _)) | exact Loc.below hb1 (by assumption : Loc _ [_])); (repeat rw [World.size_drew] at hqhb1); (repeat rw [World.size_alloc] at hqhb1); have hrhb1 := hqhb1; (repeat unfold Loc at hrhb1)))
      (refine hK.out _ _ (by (first | assumption | exact Env.step (by assumption) (by assumption) | exact Env.old (by assumption) _ | exact Env.drew hE | exact hE | exact Env.drew (by assumption) | exact Env.drew (Env.old (by assumption) _) | ((repeat first | refine Env.far0 ?_ (by assumption) _ | refine Env.far1 ?_ (by assumption) _ | refine Env.farA ?_ (by assumption) _); assumption))) (fun hHeld => ?_); clear hK K; (try simp only [Act.put]))
      refine wpAnyH_ready (rs := [2, 6]) (by kernel_rfl) (by simp) ?_
      refine hCons 2 (by decide) ?_ (hCons 6 (by decide) ?_ AllReadyH.nil)
      · (intro oi hoi; simp only [List.getElem?_toArray, List.getElem?_cons_succ, List.getElem?_cons_zero] at hoi; obtain rfl := Option.some.inj hoi; clear hoi); intro K hK
        go_simp
        go_at_call 41
        refine (HTC.out _).mono ?_
        rintro r w6 ⟨P2, M2, S2, E2, R2, L2, gp, gm, gs, ge, gr, gl, rfl, hb2⟩
        have hEhb2 := Env.step hb2 (by assumption); (try (have hqhb2 := (by with_reducible first | exact Loc.below hb2 (Loc.new (Loc.nil _) _ _) | exact Loc.below hb2 (Loc.drew (Loc.new (Loc.nil _) _ _)) | exact Loc.below hb2 (by assumption : Loc _ [_])); (repeat rw [World.size_drew] at hqhb2); (repeat rw [World.size_alloc] at hqhb2); have hrhb2 := hqhb2; (repeat unfold Loc at hrhb2)))
        (refine hK.out _ _ (by (first | assumption | exact Env.step (by assumption) (by assumption) | exact Env.old (by assumption) _ | exact Env.drew hE | exact hE | exact Env.drew (by assumption) | exact Env.drew (Env.old (by assumption) _) | ((repeat first | refine Env.far0 ?_ (by assumption) _ | refine Env.far1 ?_ (by assumption) _ | refine Env.farA ?_ (by assumption) _); assumption))) (fun hHeld => ?_); clear hK K; (try simp only [Act.put]))
        refine hTake 3 (by kernel_rfl) (by kernel_rfl) (by kernel_rfl) (by decide) (by assumption) ?_; (intro oi hoi; simp only [List.getElem?_toArray, List.getElem?_cons_succ, List.getElem?_cons_zero] at hoi; obtain rfl := Option.some.inj hoi; clear hoi); refine ⟨rfl, ?_⟩; apply Exists.intro; refine ⟨?_, fun _ _ _ h => h, ?_⟩; (intro w hSw; (try dsimp only at hSw); go_simp; (try with_reducible rfl)); (try simp only [Act.put]); refine hTake 4 (by kernel_rfl) (by kernel_rfl) (by kernel_rfl) (by decide) (by assumption) ?_; (intro oi hoi; simp only [List.getElem?_toArray, List.getElem?_cons_succ, List.getElem?_cons_zero] at hoi; obtain rfl := Option.some.inj hoi; clear hoi); refine ⟨rfl, ?_⟩; apply Exists.intro; refine ⟨?_, fun _ _ _ h => h, ?_⟩; (intro w hSw; (try dsimp only at hSw); go_simp; (try with_reducible rfl)); (try simp only [Act.put]); refine hTake 5 (by kernel_rfl) (by kernel_rfl) (by kernel_rfl) (by decide) (by assumption) ?_; (intro oi hoi; simp only [List.getElem?_toArray, List.getElem?_cons_succ, List.getElem?_cons_zero] at hoi; obtain rfl := Option.some.inj hoi; clear hoi); refine ⟨rfl, ?_⟩; apply Exists.intro; refine ⟨?_, fun _ _ _ h => h, ?_⟩; (intro w hSw; (try dsimp only at hSw); go_simp; (try with_reducible rfl)); (try simp only [Act.put])
        refine hOnly 6 (by kernel_rfl) (by decide) ?_; (intro oi hoi; simp only [List.getElem?_toArray, List.getElem?_cons_succ, List.getElem?_cons_zero] at hoi; obtain rfl := Option.some.inj hoi; clear hoi); intro K hK; go_simp
        (refine hK.out _ _ (by (first | assumption | exact Env.step (by assumption) (by assumption) | exact Env.old (by assumption) _ | exact Env.drew hE | exact hE | exact Env.drew (by assumption) | exact Env.drew (Env.old (by assumption) _) | ((repeat first | refine Env.far0 ?_ (by assumption) _ | refine Env.far1 ?_ (by assumption) _ | refine Env.farA ?_ (by assumption) _); assumption))) (fun hHeld => ?_); clear hK K; (try simp only [Act.put]))
        refine hOnly 7 (by kernel_rfl) (by decide) ?_; (intro oi hoi; simp only [List.getElem?_toArray, List.getElem?_cons_succ, List.getElem?_cons_zero] at hoi; obtain rfl := Option.some.inj hoi; clear hoi); intro K hK; go_simp
        (refine hK.out _ _ (by (first | assumption | exact Env.step (by assumption) (by assumption) | exact Env.old (by assumption) _ | exact Env.drew hE | exact hE | exact Env.drew (by assumption) | exact Env.drew (Env.old (by assumption) _) | ((repeat first | refine Env.far0 ?_ (by assumption) _ | refine Env.far1 ?_ (by assumption) _ | refine Env.farA ?_ (by assumption) _); assumption))) (fun hHeld => ?_); clear hK K; (try simp only [Act.put]))
        refine hTake 8 (by kernel_rfl) (by kernel_rfl) (by kernel_rfl) (by decide) (by assumption) ?_; (intro oi hoi; simp only [List.getElem?_toArray, List.getElem?_cons_succ, List.getElem?_cons_zero] at hoi; obtain rfl := Option.some.inj hoi; clear hoi); refine ⟨rfl, ?_⟩; apply Exists.intro; refine ⟨?_, fun _ _ _ h => h, ?_⟩; (intro w hSw; (try dsimp only at hSw); go_simp; (try with_reducible rfl)); (try simp only [Act.put])
        refine wpAnyH_done (by kernel_rfl) ?_ _
        go_wp2_with fail
        rw [HT.out]
        simp only [List.setIfInBounds_toArray]
        go_meet
        case rel => exact ⟨rfl, tke_box ((below_drew (Below.refl _ _)).trans hb1) hb2⟩
      · (intro oi hoi; simp only [List.getElem?_toArray, List.getElem?_cons_succ, List.getElem?_cons_zero] at hoi; obtain rfl := Option.some.inj hoi; clear hoi); intro K hK
        go_simp
        (refine hK.out _ _ (by (first | assumption | exact Env.step (by assumption) (by assumption) | exact Env.old (by assumption) _ | exact Env.drew hE | exact hE | exact Env.drew (by assumption) | exact Env.drew (Env.old (by assumption) _) | ((repeat first | refine Env.far0 ?_ (by assumption) _ | refine Env.far1 ?_ (by assumption) _ | refine Env.farA ?_ (by assumption) _); assumption))) (fun hHeld => ?_); clear hK K; (try simp only [Act.put]))
        refine hOnly 2 (by kernel_rfl) (by decide) ?_; (intro oi hoi; simp only [List.getElem?_toArray, List.getElem?_cons_succ, List.getElem?_cons_zero] at hoi; obtain rfl := Option.some.inj hoi; clear hoi); intro K hK; go_simp
        go_at_call 41
        refine (HTC.out _).mono ?_
        rintro r w6 ⟨P2, M2, S2, E2, R2, L2, gp, gm, gs, ge, gr, gl, rfl, hb2⟩
        have hEhb2 := Env.step hb2 (by assumption); (try (have hqhb2 := (by with_reducible first | exact Loc.below hb2 (Loc.new (Loc.nil _) _ _) | exact Loc.below hb2 (Loc.drew (Loc.new (Loc.nil _) _ _)) | exact Loc.below hb2 (by assumption : Loc _ [_])); (repeat rw [World.size_drew] at hqhb2); (repeat rw [World.size_alloc] at hqhb2); have hrhb2 := hqhb2; (repeat unfold Loc at hrhb2)))
        (refine hK.out _ _ (by (first | assumption | exact Env.step (by assumption) (by assumption) | exact Env.old (by assumption) _ | exact Env.drew hE | exact hE | exact Env.drew (by assumption) | exact Env.drew (Env.old (by assumption) _) | ((repeat first | refine Env.far0 ?_ (by assumption) _ | refine Env.far1 ?_ (by assumption) _ | refine Env.farA ?_ (by assumption) _); assumption))) (fun hHeld => ?_); clear hK K; (try simp only [Act.put]))
        refine hTake 3 (by kernel_rfl) (by kernel_rfl) (by kernel_rfl) (by decide) (by assumption) ?_; (intro oi hoi; simp only [List.getElem?_toArray, List.getElem?_cons_succ, List.getElem?_cons_zero] at hoi; obtain rfl := Option.some.inj hoi; clear hoi); refine ⟨rfl, ?_⟩; apply Exists.intro; refine ⟨?_, fun _ _ _ h => h, ?_⟩; (intro w hSw; (try dsimp only at hSw); go_simp; (try with_reducible rfl)); (try simp only [Act.put]); refine hTake 4 (by kernel_rfl) (by kernel_rfl) (by kernel_rfl) (by decide) (by assumption) ?_; (intro oi hoi; simp only [List.getElem?_toArray, List.getElem?_cons_succ, List.getElem?_cons_zero] at hoi; obtain rfl := Option.some.inj hoi; clear hoi); refine ⟨rfl, ?_⟩; apply Exists.intro; refine ⟨?_, fun _ _ _ h => h, ?_⟩; (intro w hSw; (try dsimp only at hSw); go_simp; (try with_reducible rfl)); (try simp only [Act.put]); refine hTake 5 (by kernel_rfl) (by kernel_rfl) (by kernel_rfl) (by decide) (by assumption) ?_; (intro oi hoi; simp only [List.getElem?_toArray, List.getElem?_cons_succ, List.getElem?_cons_zero] at hoi; obtain rfl := Option.some.inj hoi; clear hoi); refine ⟨rfl, ?_⟩; apply Exists.intro; refine ⟨?_, fun _ _ _ h => h, ?_⟩; (intro w hSw; (try dsimp only at hSw); go_simp; (try with_reducible rfl)); (try simp only [Act.put])
        refine hOnly 7 (by kernel_rfl) (by decide) ?_; (intro oi hoi; simp only [List.getElem?_toArray, List.getElem?_cons_succ, List.getElem?_cons_zero] at hoi; obtain rfl := Option.some.inj hoi; clear hoi); intro K hK; go_simp
        (refine hK.out _ _ (env_put9 (by assumption) (show W.heap.size ≤ _ from hb1.size) _ _ _ _ _ _ _ _ _ (fun q hq => Nat.ne_of_lt (Env.lt2 hEhb1 q hq))) (fun hHeld => ?_); clear hK K; (try simp only [Act.put]))
        refine hTake 8 (by kernel_rfl) (by kernel_rfl) (by kernel_rfl) (by decide) (by assumption) ?_; (intro oi hoi; simp only [List.getElem?_toArray, List.getElem?_cons_succ, List.getElem?_cons_zero] at hoi; obtain rfl := Option.some.inj hoi; clear hoi); refine ⟨rfl, ?_⟩; apply Exists.intro; refine ⟨?_, fun _ _ _ h => h, ?_⟩; (intro w hSw; (try dsimp only at hSw); go_simp; (try with_reducible rfl)); (try simp only [Act.put])
        refine wpAnyH_done (by kernel_rfl) ?_ _
        go_wp2_with fail
        rw [HT.out]
        simp only [List.setIfInBounds_toArray]
        go_meet
        case rel => exact ⟨rfl, tke_put (below_new ((below_drew (Below.refl _ _)).trans hb1) _) hb2 hb1.size⟩
    · (intro oi hoi; simp only [List.getElem?_toArray, List.getElem?_cons_succ, List.getElem?_cons_zero] at hoi; obtain rfl := Option.some.inj hoi; clear hoi); intro K hK
      go_simp
      (refine hK.out _ _ (by (first | assumption | exact Env.step (by assumption) (by assumption) | exact Env.old (by assumption) _ | exact Env.drew hE | exact hE | exact Env.drew (by assumption) | exact Env.drew (Env.old (by assumption) _) | ((repeat first | refine Env.far0 ?_ (by assumption) _ | refine Env.far1 ?_ (by assumption) _ | refine Env.farA ?_ (by assumption) _); assumption))) (fun hHeld => ?_); clear hK K; (try simp only [Act.put]))
      refine hOnly 0 (by kernel_rfl) (by decide) ?_; (intro oi hoi; simp only [List.getElem?_toArray, List.getElem?_cons_zero] at hoi; obtain rfl := Option.some.inj hoi; clear hoi); intro K hK; go_simp
      go_at_call 44
      refine (HNEW.out _ _).mono ?_
      rintro r w5 ⟨rfl, hb1⟩
      have hEhb1 := Env.step hb1 (by assumption); (try (have hqhb1 := (by with_reducible first | exact Loc.below hb1 (Loc.new (Loc.nil _) _ _) | exact Loc.below hb1 (Loc.drew (Loc.new (Loc.nil _) _ _)) | exact Loc.below hb1 (by assumption : Loc _ [_])); (repeat rw [World.size_drew] at hqhb1); (repeat rw [World.size_alloc] at hqhb1); have hrhb1 := hqhb1; (repeat unfold Loc at hrhb1)))
      (refine hK.out _ _ (by (first | assumption | exact Env.step (by assumption) (by assumption) | exact Env.old (by assumption) _ | exact Env.drew hE | exact hE | exact Env.drew (by assumption) | exact Env.drew (Env.old (by assumption) _) | ((repeat first | refine Env.far0 ?_ (by assumption) _ | refine Env.far1 ?_ (by assumption) _ | refine Env.farA ?_ (by assumption) _); assumption))) (fun hHeld => ?_); clear hK K; (try simp only [Act.put]))
      refine hOnly 2 (by kernel_rfl) (by decide) ?_; (intro oi hoi; simp only [List.getElem?_toArray, List.getElem?_cons_succ, List.getElem?_cons_zero] at hoi; obtain rfl := Option.some.inj hoi; clear hoi); intro K hK; go_simp
      go_at_call 41
      refine (HTC.out _).mono ?_
      rintro r w6 ⟨P2, M2, S2, E2, R2, L2, gp, gm, gs, ge, gr, gl, rfl, hb2⟩
      have hEhb2 := Env.step hb2 (by assumption); (try (have hqhb2 := (by with_reducible first | exact Loc.below hb2 (Loc.new (Loc.nil _) _ _) | exact Loc.below hb2 (Loc.drew (Loc.new (Loc.nil _) _ _)) | exact Loc.below hb2 (by assumption : Loc _ [_])); (repeat rw [World.size_drew] at hqhb2); (repeat rw [World.size_alloc] at hqhb2); have hrhb2 := hqhb2; (repeat unfold Loc at hrhb2)))
      (refine hK.out _ _ (by (first | assumption | exact Env.step (by assumption) (by assumption) | exact Env.old (by assumption) _ | exact Env.drew hE | exact hE | exact Env.drew (by assumption) | exact Env.drew (Env.old (by assumption) _) | ((repeat first | refine Env.far0 ?_ (by assumption) _ | refine Env.far1 ?_ (by assumption) _ | refine Env.farA ?_ (by assumption) _); assumption))) (fun hHeld => ?_); clear hK K; (try simp only [Act.put]))
      refine hTake 3 (by kernel_rfl) (by kernel_rfl) (by kernel_rfl) (by decide) (by assumption) ?_; (intro oi hoi; simp only [List.getElem?_toArray, List.getElem?_cons_succ, List.getElem?_cons_zero] at hoi; obtain rfl := Option.some.inj hoi; clear hoi); refine ⟨rfl, ?_⟩; apply Exists.intro; refine ⟨?_, fun _ _ _ h => h, ?_⟩; (intro w hSw; (try dsimp only at hSw); go_simp; (try with_reducible rfl)); (try simp only [Act.put]); refine hTake 4 (by kernel_rfl) (by kernel_rfl) (by kernel_rfl) (by decide) (by assumption) ?_; (intro oi hoi; simp only [List.getElem?_toArray, List.getElem?_cons_succ, List.getElem?_cons_zero] at hoi; obtain rfl := Option.some.inj hoi; clear hoi); refine ⟨rfl, ?_⟩; apply Exists.intro; refine ⟨?_, fun _ _ _ h => h, ?_⟩; (intro w hSw; (try dsimp only at hSw); go_simp; (try with_reducible rfl)); (try simp only [Act.put]); refine hTake 5 (by kernel_rfl) (by kernel_rfl) (by kernel_rfl) (by decide) (by assumption) ?_; (intro oi hoi; simp only [List.getElem?_toArray, List.getElem?_cons_succ, List.getElem?_cons_zero] at hoi; obtain rfl := Option.some.inj hoi; clear hoi); refine ⟨rfl, ?_⟩; apply Exists.intro; refine ⟨?_, fun _ _ _ h => h, ?_⟩; (intro w hSw; (try dsimp only at hSw); go_simp; (try with_reducible rfl)); (try simp only [Act.put])
      refine hOnly 7 (by kernel_rfl) (by decide) ?_; (intro oi hoi; simp only [List.getElem?_toArray, List.getElem?_cons_succ, List.getElem?_cons_zero] at hoi; obtain rfl := Option.some.inj hoi; clear hoi); intro K hK; go_simp
      (refine hK.out _ _ (env_put9 (by assumption) (Nat.le_refl _) _ _ _ _ _ _ _ _ _ (fun q hq => Nat.ne_of_lt (Env.lt2 hE q hq))) (fun hHeld => ?_); clear hK K; (try simp only [Act.put]))
      refine hTake 8 (by kernel_rfl) (by kernel_rfl) (by kernel_rfl) (by decide) (by assumption) ?_; (intro oi hoi; simp only [List.getElem?_toArray, List.getElem?_cons_succ, List.getElem?_cons_zero] at hoi; obtain rfl := Option.some.inj hoi; clear hoi); refine ⟨rfl, ?_⟩; apply Exists.intro; refine ⟨?_, fun _ _ _ h => h, ?_⟩; (intro w hSw; (try dsimp only at hSw); go_simp; (try with_reducible rfl)); (try simp only [Act.put])
      refine wpAnyH_done (by kernel_rfl) ?_ _
      go_wp2_with fail
      rw [HT.out]
      simp only [List.setIfInBounds_toArray]
      go_meet
      case rel => exact ⟨rfl, tke_put ((below_new (below_drew (Below.refl _ _)) _).trans (hb1.mono (by rw [World.size_drew, World.size_alloc]; exact Nat.le_succ _))) hb2 (Nat.le_refl _)⟩
  case rest =>
  obtain ⟨rfl, hbn⟩ := hcut
  replace hl := hl.below hbn
  replace hb := below_then hb hbn
  clear hbn
  clear W
  obtain ⟨W, rfl⟩ : ∃ x, x = wc := ⟨_, rfl⟩
  go_upto_region 6 with (fail)
  go_cut [9, 10] from 64 to 69 (fun _ v9 wx => v9 = .int .i64 8 ∧ Below W.heap.size W wx)
  case first =>
    obtain ⟨lE, hE, hRR⟩ := Env.abs (w0 := W) (Below.refl _ _) hl
    (repeat unfold Loc at hRR)
    refine frame_abs ?_
    intro T hT
    have hsz : T.size = 325 := by rw [hT]; rfl
    have hs1 : T.getD 1 undef = .pointer (some ⟨p1, 0, none⟩) := by rw [hT]; rfl
    have hs2 : T.getD 2 undef = .pointer (some ⟨p1 + 1, 0, none⟩) := by rw [hT]; rfl
    have HT := Lib.hid hT
    clear hT
    have hgs := getD_same; have hgn := getD_other
    refine wp_region_held_drew (S := Env W lE) (by kernel_rfl) (by (first | assumption | exact Env.step (by assumption) (by assumption) | exact Env.old (by assumption) _ | exact Env.drew hE | exact hE | exact Env.drew (by assumption) | exact Env.drew (Env.old (by assumption) _) | ((repeat first | refine Env.far0 ?_ (by assumption) _ | refine Env.far1 ?_ (by assumption) _ | refine Env.farA ?_ (by assumption) _); assumption))) (fun hHeld => ?_)
    refine hTake 1 (by kernel_rfl) (by kernel_rfl) (by kernel_rfl) (by decide) (by assumption) ?_; (intro oi hoi; simp only [List.getElem?_toArray, List.getElem?_cons_succ, List.getElem?_cons_zero] at hoi; obtain rfl := Option.some.inj hoi; clear hoi); refine ⟨rfl, ?_⟩; apply Exists.intro; refine ⟨?_, fun _ _ _ h => h, ?_⟩; (intro w hSw; (try dsimp only at hSw); go_simp; (try with_reducible rfl)); (try simp only [Act.put])
    refine wpAnyH_ready (rs := [0, 6]) (by kernel_rfl) (by simp) ?_
    refine hCons 0 (by decide) ?_ (hCons 6 (by decide) ?_ AllReadyH.nil)
    · (intro oi hoi; simp only [List.getElem?_toArray, List.getElem?_cons_zero] at hoi; obtain rfl := Option.some.inj hoi; clear hoi); intro K hK
      go_simp
      go_at_call 44
      refine (HNEW.out _ _).mono ?_
      rintro r w5 ⟨rfl, hb1⟩
      have hEhb1 := Env.step hb1 (by assumption); (try (have hqhb1 := (by with_reducible first | exact Loc.below hb1 (Loc.new (Loc.nil _) _ _) | exact Loc.below hb1 (Loc.drew (Loc.new (Loc.nil _) _ _)) | exact Loc.below hb1 (by assumption : Loc _ [_])); (repeat rw [World.size_drew] at hqhb1); (repeat rw [World.size_alloc] at hqhb1); have hrhb1 := hqhb1; (repeat unfold Loc at hrhb1)))
      (refine hK.out _ _ (by (first | assumption | exact Env.step (by assumption) (by assumption) | exact Env.old (by assumption) _ | exact Env.drew hE | exact hE | exact Env.drew (by assumption) | exact Env.drew (Env.old (by assumption) _) | ((repeat first | refine Env.far0 ?_ (by assumption) _ | refine Env.far1 ?_ (by assumption) _ | refine Env.farA ?_ (by assumption) _); assumption))) (fun hHeld => ?_); clear hK K; (try simp only [Act.put]))
      refine wpAnyH_ready (rs := [2, 6]) (by kernel_rfl) (by simp) ?_
      refine hCons 2 (by decide) ?_ (hCons 6 (by decide) ?_ AllReadyH.nil)
      · (intro oi hoi; simp only [List.getElem?_toArray, List.getElem?_cons_succ, List.getElem?_cons_zero] at hoi; obtain rfl := Option.some.inj hoi; clear hoi); intro K hK
        go_simp
        go_at_call 41
        refine (HTD.out _).mono ?_
        rintro r w6 ⟨P2, M2, S2, E2, R2, L2, gp, gm, gs, ge, gr, gl, rfl, hb2⟩
        have hEhb2 := Env.step hb2 (by assumption); (try (have hqhb2 := (by with_reducible first | exact Loc.below hb2 (Loc.new (Loc.nil _) _ _) | exact Loc.below hb2 (Loc.drew (Loc.new (Loc.nil _) _ _)) | exact Loc.below hb2 (by assumption : Loc _ [_])); (repeat rw [World.size_drew] at hqhb2); (repeat rw [World.size_alloc] at hqhb2); have hrhb2 := hqhb2; (repeat unfold Loc at hrhb2)))
        (refine hK.out _ _ (by (first | assumption | exact Env.step (by assumption) (by assumption) | exact Env.old (by assumption) _ | exact Env.drew hE | exact hE | exact Env.drew (by assumption) | exact Env.drew (Env.old (by assumption) _) | ((repeat first | refine Env.far0 ?_ (by assumption) _ | refine Env.far1 ?_ (by assumption) _ | refine Env.farA ?_ (by assumption) _); assumption))) (fun hHeld => ?_); clear hK K; (try simp only [Act.put]))
        refine hTake 3 (by kernel_rfl) (by kernel_rfl) (by kernel_rfl) (by decide) (by assumption) ?_; (intro oi hoi; simp only [List.getElem?_toArray, List.getElem?_cons_succ, List.getElem?_cons_zero] at hoi; obtain rfl := Option.some.inj hoi; clear hoi); refine ⟨rfl, ?_⟩; apply Exists.intro; refine ⟨?_, fun _ _ _ h => h, ?_⟩; (intro w hSw; (try dsimp only at hSw); go_simp; (try with_reducible rfl)); (try simp only [Act.put]); refine hTake 4 (by kernel_rfl) (by kernel_rfl) (by kernel_rfl) (by decide) (by assumption) ?_; (intro oi hoi; simp only [List.getElem?_toArray, List.getElem?_cons_succ, List.getElem?_cons_zero] at hoi; obtain rfl := Option.some.inj hoi; clear hoi); refine ⟨rfl, ?_⟩; apply Exists.intro; refine ⟨?_, fun _ _ _ h => h, ?_⟩; (intro w hSw; (try dsimp only at hSw); go_simp; (try with_reducible rfl)); (try simp only [Act.put]); refine hTake 5 (by kernel_rfl) (by kernel_rfl) (by kernel_rfl) (by decide) (by assumption) ?_; (intro oi hoi; simp only [List.getElem?_toArray, List.getElem?_cons_succ, List.getElem?_cons_zero] at hoi; obtain rfl := Option.some.inj hoi; clear hoi); refine ⟨rfl, ?_⟩; apply Exists.intro; refine ⟨?_, fun _ _ _ h => h, ?_⟩; (intro w hSw; (try dsimp only at hSw); go_simp; (try with_reducible rfl)); (try simp only [Act.put])
        refine hOnly 6 (by kernel_rfl) (by decide) ?_; (intro oi hoi; simp only [List.getElem?_toArray, List.getElem?_cons_succ, List.getElem?_cons_zero] at hoi; obtain rfl := Option.some.inj hoi; clear hoi); intro K hK; go_simp
        (refine hK.out _ _ (by (first | assumption | exact Env.step (by assumption) (by assumption) | exact Env.old (by assumption) _ | exact Env.drew hE | exact hE | exact Env.drew (by assumption) | exact Env.drew (Env.old (by assumption) _) | ((repeat first | refine Env.far0 ?_ (by assumption) _ | refine Env.far1 ?_ (by assumption) _ | refine Env.farA ?_ (by assumption) _); assumption))) (fun hHeld => ?_); clear hK K; (try simp only [Act.put]))
        refine hOnly 7 (by kernel_rfl) (by decide) ?_; (intro oi hoi; simp only [List.getElem?_toArray, List.getElem?_cons_succ, List.getElem?_cons_zero] at hoi; obtain rfl := Option.some.inj hoi; clear hoi); intro K hK; go_simp
        (refine hK.out _ _ (by (first | assumption | exact Env.step (by assumption) (by assumption) | exact Env.old (by assumption) _ | exact Env.drew hE | exact hE | exact Env.drew (by assumption) | exact Env.drew (Env.old (by assumption) _) | ((repeat first | refine Env.far0 ?_ (by assumption) _ | refine Env.far1 ?_ (by assumption) _ | refine Env.farA ?_ (by assumption) _); assumption))) (fun hHeld => ?_); clear hK K; (try simp only [Act.put]))
        refine hTake 8 (by kernel_rfl) (by kernel_rfl) (by kernel_rfl) (by decide) (by assumption) ?_; (intro oi hoi; simp only [List.getElem?_toArray, List.getElem?_cons_succ, List.getElem?_cons_zero] at hoi; obtain rfl := Option.some.inj hoi; clear hoi); refine ⟨rfl, ?_⟩; apply Exists.intro; refine ⟨?_, fun _ _ _ h => h, ?_⟩; (intro w hSw; (try dsimp only at hSw); go_simp; (try with_reducible rfl)); (try simp only [Act.put])
        refine wpAnyH_done (by kernel_rfl) ?_ _
        go_wp2_with fail
        rw [HT.out]
        simp only [List.setIfInBounds_toArray]
        go_meet
        case rel => exact ⟨rfl, tke_box ((below_drew (Below.refl _ _)).trans hb1) hb2⟩
      · (intro oi hoi; simp only [List.getElem?_toArray, List.getElem?_cons_succ, List.getElem?_cons_zero] at hoi; obtain rfl := Option.some.inj hoi; clear hoi); intro K hK
        go_simp
        (refine hK.out _ _ (by (first | assumption | exact Env.step (by assumption) (by assumption) | exact Env.old (by assumption) _ | exact Env.drew hE | exact hE | exact Env.drew (by assumption) | exact Env.drew (Env.old (by assumption) _) | ((repeat first | refine Env.far0 ?_ (by assumption) _ | refine Env.far1 ?_ (by assumption) _ | refine Env.farA ?_ (by assumption) _); assumption))) (fun hHeld => ?_); clear hK K; (try simp only [Act.put]))
        refine hOnly 2 (by kernel_rfl) (by decide) ?_; (intro oi hoi; simp only [List.getElem?_toArray, List.getElem?_cons_succ, List.getElem?_cons_zero] at hoi; obtain rfl := Option.some.inj hoi; clear hoi); intro K hK; go_simp
        go_at_call 41
        refine (HTD.out _).mono ?_
        rintro r w6 ⟨P2, M2, S2, E2, R2, L2, gp, gm, gs, ge, gr, gl, rfl, hb2⟩
        have hEhb2 := Env.step hb2 (by assumption); (try (have hqhb2 := (by with_reducible first | exact Loc.below hb2 (Loc.new (Loc.nil _) _ _) | exact Loc.below hb2 (Loc.drew (Loc.new (Loc.nil _) _ _)) | exact Loc.below hb2 (by assumption : Loc _ [_])); (repeat rw [World.size_drew] at hqhb2); (repeat rw [World.size_alloc] at hqhb2); have hrhb2 := hqhb2; (repeat unfold Loc at hrhb2)))
        (refine hK.out _ _ (by (first | assumption | exact Env.step (by assumption) (by assumption) | exact Env.old (by assumption) _ | exact Env.drew hE | exact hE | exact Env.drew (by assumption) | exact Env.drew (Env.old (by assumption) _) | ((repeat first | refine Env.far0 ?_ (by assumption) _ | refine Env.far1 ?_ (by assumption) _ | refine Env.farA ?_ (by assumption) _); assumption))) (fun hHeld => ?_); clear hK K; (try simp only [Act.put]))
        refine hTake 3 (by kernel_rfl) (by kernel_rfl) (by kernel_rfl) (by decide) (by assumption) ?_; (intro oi hoi; simp only [List.getElem?_toArray, List.getElem?_cons_succ, List.getElem?_cons_zero] at hoi; obtain rfl := Option.some.inj hoi; clear hoi); refine ⟨rfl, ?_⟩; apply Exists.intro; refine ⟨?_, fun _ _ _ h => h, ?_⟩; (intro w hSw; (try dsimp only at hSw); go_simp; (try with_reducible rfl)); (try simp only [Act.put]); refine hTake 4 (by kernel_rfl) (by kernel_rfl) (by kernel_rfl) (by decide) (by assumption) ?_; (intro oi hoi; simp only [List.getElem?_toArray, List.getElem?_cons_succ, List.getElem?_cons_zero] at hoi; obtain rfl := Option.some.inj hoi; clear hoi); refine ⟨rfl, ?_⟩; apply Exists.intro; refine ⟨?_, fun _ _ _ h => h, ?_⟩; (intro w hSw; (try dsimp only at hSw); go_simp; (try with_reducible rfl)); (try simp only [Act.put]); refine hTake 5 (by kernel_rfl) (by kernel_rfl) (by kernel_rfl) (by decide) (by assumption) ?_; (intro oi hoi; simp only [List.getElem?_toArray, List.getElem?_cons_succ, List.getElem?_cons_zero] at hoi; obtain rfl := Option.some.inj hoi; clear hoi); refine ⟨rfl, ?_⟩; apply Exists.intro; refine ⟨?_, fun _ _ _ h => h, ?_⟩; (intro w hSw; (try dsimp only at hSw); go_simp; (try with_reducible rfl)); (try simp only [Act.put])
        refine hOnly 7 (by kernel_rfl) (by decide) ?_; (intro oi hoi; simp only [List.getElem?_toArray, List.getElem?_cons_succ, List.getElem?_cons_zero] at hoi; obtain rfl := Option.some.inj hoi; clear hoi); intro K hK; go_simp
        (refine hK.out _ _ (env_put9 (by assumption) (show W.heap.size ≤ _ from hb1.size) _ _ _ _ _ _ _ _ _ (fun q hq => Nat.ne_of_lt (Env.lt2 hEhb1 q hq))) (fun hHeld => ?_); clear hK K; (try simp only [Act.put]))
        refine hTake 8 (by kernel_rfl) (by kernel_rfl) (by kernel_rfl) (by decide) (by assumption) ?_; (intro oi hoi; simp only [List.getElem?_toArray, List.getElem?_cons_succ, List.getElem?_cons_zero] at hoi; obtain rfl := Option.some.inj hoi; clear hoi); refine ⟨rfl, ?_⟩; apply Exists.intro; refine ⟨?_, fun _ _ _ h => h, ?_⟩; (intro w hSw; (try dsimp only at hSw); go_simp; (try with_reducible rfl)); (try simp only [Act.put])
        refine wpAnyH_done (by kernel_rfl) ?_ _
        go_wp2_with fail
        rw [HT.out]
        simp only [List.setIfInBounds_toArray]
        go_meet
        case rel => exact ⟨rfl, tke_put (below_new ((below_drew (Below.refl _ _)).trans hb1) _) hb2 hb1.size⟩
    · (intro oi hoi; simp only [List.getElem?_toArray, List.getElem?_cons_succ, List.getElem?_cons_zero] at hoi; obtain rfl := Option.some.inj hoi; clear hoi); intro K hK
      go_simp
      (refine hK.out _ _ (by (first | assumption | exact Env.step (by assumption) (by assumption) | exact Env.old (by assumption) _ | exact Env.drew hE | exact hE | exact Env.drew (by assumption) | exact Env.drew (Env.old (by assumption) _) | ((repeat first | refine Env.far0 ?_ (by assumption) _ | refine Env.far1 ?_ (by assumption) _ | refine Env.farA ?_ (by assumption) _); assumption))) (fun hHeld => ?_); clear hK K; (try simp only [Act.put]))
      refine hOnly 0 (by kernel_rfl) (by decide) ?_; (intro oi hoi; simp only [List.getElem?_toArray, List.getElem?_cons_zero] at hoi; obtain rfl := Option.some.inj hoi; clear hoi); intro K hK; go_simp
      go_at_call 44
      refine (HNEW.out _ _).mono ?_
      rintro r w5 ⟨rfl, hb1⟩
      have hEhb1 := Env.step hb1 (by assumption); (try (have hqhb1 := (by with_reducible first | exact Loc.below hb1 (Loc.new (Loc.nil _) _ _) | exact Loc.below hb1 (Loc.drew (Loc.new (Loc.nil _) _ _)) | exact Loc.below hb1 (by assumption : Loc _ [_])); (repeat rw [World.size_drew] at hqhb1); (repeat rw [World.size_alloc] at hqhb1); have hrhb1 := hqhb1; (repeat unfold Loc at hrhb1)))
      (refine hK.out _ _ (by (first | assumption | exact Env.step (by assumption) (by assumption) | exact Env.old (by assumption) _ | exact Env.drew hE | exact hE | exact Env.drew (by assumption) | exact Env.drew (Env.old (by assumption) _) | ((repeat first | refine Env.far0 ?_ (by assumption) _ | refine Env.far1 ?_ (by assumption) _ | refine Env.farA ?_ (by assumption) _); assumption))) (fun hHeld => ?_); clear hK K; (try simp only [Act.put]))
      refine hOnly 2 (by kernel_rfl) (by decide) ?_; (intro oi hoi; simp only [List.getElem?_toArray, List.getElem?_cons_succ, List.getElem?_cons_zero] at hoi; obtain rfl := Option.some.inj hoi; clear hoi); intro K hK; go_simp
      go_at_call 41
      refine (HTD.out _).mono ?_
      rintro r w6 ⟨P2, M2, S2, E2, R2, L2, gp, gm, gs, ge, gr, gl, rfl, hb2⟩
      have hEhb2 := Env.step hb2 (by assumption); (try (have hqhb2 := (by with_reducible first | exact Loc.below hb2 (Loc.new (Loc.nil _) _ _) | exact Loc.below hb2 (Loc.drew (Loc.new (Loc.nil _) _ _)) | exact Loc.below hb2 (by assumption : Loc _ [_])); (repeat rw [World.size_drew] at hqhb2); (repeat rw [World.size_alloc] at hqhb2); have hrhb2 := hqhb2; (repeat unfold Loc at hrhb2)))
      (refine hK.out _ _ (by (first | assumption | exact Env.step (by assumption) (by assumption) | exact Env.old (by assumption) _ | exact Env.drew hE | exact hE | exact Env.drew (by assumption) | exact Env.drew (Env.old (by assumption) _) | ((repeat first | refine Env.far0 ?_ (by assumption) _ | refine Env.far1 ?_ (by assumption) _ | refine Env.farA ?_ (by assumption) _); assumption))) (fun hHeld => ?_); clear hK K; (try simp only [Act.put]))
      refine hTake 3 (by kernel_rfl) (by kernel_rfl) (by kernel_rfl) (by decide) (by assumption) ?_; (intro oi hoi; simp only [List.getElem?_toArray, List.getElem?_cons_succ, List.getElem?_cons_zero] at hoi; obtain rfl := Option.some.inj hoi; clear hoi); refine ⟨rfl, ?_⟩; apply Exists.intro; refine ⟨?_, fun _ _ _ h => h, ?_⟩; (intro w hSw; (try dsimp only at hSw); go_simp; (try with_reducible rfl)); (try simp only [Act.put]); refine hTake 4 (by kernel_rfl) (by kernel_rfl) (by kernel_rfl) (by decide) (by assumption) ?_; (intro oi hoi; simp only [List.getElem?_toArray, List.getElem?_cons_succ, List.getElem?_cons_zero] at hoi; obtain rfl := Option.some.inj hoi; clear hoi); refine ⟨rfl, ?_⟩; apply Exists.intro; refine ⟨?_, fun _ _ _ h => h, ?_⟩; (intro w hSw; (try dsimp only at hSw); go_simp; (try with_reducible rfl)); (try simp only [Act.put]); refine hTake 5 (by kernel_rfl) (by kernel_rfl) (by kernel_rfl) (by decide) (by assumption) ?_; (intro oi hoi; simp only [List.getElem?_toArray, List.getElem?_cons_succ, List.getElem?_cons_zero] at hoi; obtain rfl := Option.some.inj hoi; clear hoi); refine ⟨rfl, ?_⟩; apply Exists.intro; refine ⟨?_, fun _ _ _ h => h, ?_⟩; (intro w hSw; (try dsimp only at hSw); go_simp; (try with_reducible rfl)); (try simp only [Act.put])
      refine hOnly 7 (by kernel_rfl) (by decide) ?_; (intro oi hoi; simp only [List.getElem?_toArray, List.getElem?_cons_succ, List.getElem?_cons_zero] at hoi; obtain rfl := Option.some.inj hoi; clear hoi); intro K hK; go_simp
      (refine hK.out _ _ (env_put9 (by assumption) (Nat.le_refl _) _ _ _ _ _ _ _ _ _ (fun q hq => Nat.ne_of_lt (Env.lt2 hE q hq))) (fun hHeld => ?_); clear hK K; (try simp only [Act.put]))
      refine hTake 8 (by kernel_rfl) (by kernel_rfl) (by kernel_rfl) (by decide) (by assumption) ?_; (intro oi hoi; simp only [List.getElem?_toArray, List.getElem?_cons_succ, List.getElem?_cons_zero] at hoi; obtain rfl := Option.some.inj hoi; clear hoi); refine ⟨rfl, ?_⟩; apply Exists.intro; refine ⟨?_, fun _ _ _ h => h, ?_⟩; (intro w hSw; (try dsimp only at hSw); go_simp; (try with_reducible rfl)); (try simp only [Act.put])
      refine wpAnyH_done (by kernel_rfl) ?_ _
      go_wp2_with fail
      rw [HT.out]
      simp only [List.setIfInBounds_toArray]
      go_meet
      case rel => exact ⟨rfl, tke_put ((below_new (below_drew (Below.refl _ _)) _).trans (hb1.mono (by rw [World.size_drew, World.size_alloc]; exact Nat.le_succ _))) hb2 (Nat.le_refl _)⟩
  case rest =>
  obtain ⟨rfl, hbn⟩ := hcut
  replace hl := hl.below hbn
  replace hb := below_then hb hbn
  clear hbn
  clear W
  obtain ⟨W, rfl⟩ : ∃ x, x = wc := ⟨_, rfl⟩
  go_upto_region 7 with (fail)
  go_cut [11, 12] from 70 to 75 (fun _ v9 wx => v9 = .int .i64 8 ∧ Below W.heap.size W wx)
  case first =>
    have hF := hl
    (repeat unfold Loc at hF)
    go_wp2_with fail
    go_at_call 44
    refine (HNEW.out _ _).mono ?_
    rintro r w5 ⟨rfl, hb1⟩
    go_wp2_with fail
    go_at_call 41
    refine (HTEE.out _).mono ?_
    rintro r w6 ⟨P2, M2, S2, E2, R2, L2, gp, gm, gs, ge, gr, gl, rfl, hb2⟩
    go_wp2_with fail
    go_meet
    case rel => exact ⟨rfl, tke_box hb1 hb2⟩
  case rest =>
  obtain ⟨rfl, hbn⟩ := hcut
  replace hl := hl.below hbn
  replace hb := below_then hb hbn
  clear hbn
  clear W
  obtain ⟨W, rfl⟩ : ∃ x, x = wc := ⟨_, rfl⟩
  go_upto_region 8 with (fail)
  go_cut [13, 14] from 76 to 81 (fun _ v9 wx => v9 = .int .i64 8 ∧ Below W.heap.size W wx)
  case first =>
    have hF := hl
    (repeat unfold Loc at hF)
    go_wp2_with fail
    go_at_call 44
    refine (HNEW.out _ _).mono ?_
    rintro r w5 ⟨rfl, hb1⟩
    go_wp2_with fail
    go_at_call 41
    refine (HTF.out _).mono ?_
    rintro r w6 ⟨P2, M2, S2, E2, R2, L2, gp, gm, gs, ge, gr, gl, rfl, hb2⟩
    go_wp2_with fail
    go_meet
    case rel => exact ⟨rfl, tke_box hb1 hb2⟩
  case rest =>
  obtain ⟨rfl, hbn⟩ := hcut
  replace hl := hl.below hbn
  replace hb := below_then hb hbn
  clear hbn
  clear W
  obtain ⟨W, rfl⟩ : ∃ x, x = wc := ⟨_, rfl⟩
  go_upto_region 9 with (fail)
  go_cut [15, 16] from 82 to 87 (fun v8 v9 wx => TkR 6 [⟨0, 0, 10, 0, 0⟩] 1 0 W v8 v9 wx)
  case first =>
    obtain ⟨lE, hE, hRR⟩ := Env.abs (w0 := W) (Below.refl _ _) hl
    (repeat unfold Loc at hRR)
    refine frame_abs ?_
    intro T hT
    have hsz : T.size = 325 := by rw [hT]; rfl
    have hs1 : T.getD 1 undef = .pointer (some ⟨p1, 0, none⟩) := by rw [hT]; rfl
    have hs2 : T.getD 2 undef = .pointer (some ⟨p1 + 1, 0, none⟩) := by rw [hT]; rfl
    have HT := Lib.hid hT
    clear hT
    have hgs := getD_same; have hgn := getD_other
    refine wp_region_held_drew (S := Env W lE) (by kernel_rfl) (by (first | assumption | exact Env.step (by assumption) (by assumption) | exact Env.old (by assumption) _ | exact Env.drew hE | exact hE | exact Env.drew (by assumption) | exact Env.drew (Env.old (by assumption) _) | ((repeat first | refine Env.far0 ?_ (by assumption) _ | refine Env.far1 ?_ (by assumption) _ | refine Env.farA ?_ (by assumption) _); assumption))) (fun hHeld => ?_)
    refine hTake 1 (by kernel_rfl) (by kernel_rfl) (by kernel_rfl) (by decide) (by assumption) ?_; (intro oi hoi; simp only [List.getElem?_toArray, List.getElem?_cons_succ, List.getElem?_cons_zero] at hoi; obtain rfl := Option.some.inj hoi; clear hoi); refine ⟨rfl, ?_⟩; apply Exists.intro; refine ⟨?_, fun _ _ _ h => h, ?_⟩; (intro w hSw; (try dsimp only at hSw); go_simp; (try with_reducible rfl)); (try simp only [Act.put])
    refine wpAnyH_ready (rs := [0, 6]) (by kernel_rfl) (by simp) ?_
    refine hCons 0 (by decide) ?_ (hCons 6 (by decide) ?_ AllReadyH.nil)
    · (intro oi hoi; simp only [List.getElem?_toArray, List.getElem?_cons_zero] at hoi; obtain rfl := Option.some.inj hoi; clear hoi); intro K hK
      go_simp
      go_at_call 44
      refine (HNEW.out _ _).mono ?_
      rintro r w5 ⟨rfl, hb1⟩
      have hEhb1 := Env.step hb1 (by assumption); (try (have hqhb1 := (by with_reducible first | exact Loc.below hb1 (Loc.new (Loc.nil _) _ _) | exact Loc.below hb1 (Loc.drew (Loc.new (Loc.nil _) _ _)) | exact Loc.below hb1 (by assumption : Loc _ [_])); (repeat rw [World.size_drew] at hqhb1); (repeat rw [World.size_alloc] at hqhb1); have hrhb1 := hqhb1; (repeat unfold Loc at hrhb1)))
      (refine hK.out _ _ (by (first | assumption | exact Env.step (by assumption) (by assumption) | exact Env.old (by assumption) _ | exact Env.drew hE | exact hE | exact Env.drew (by assumption) | exact Env.drew (Env.old (by assumption) _) | ((repeat first | refine Env.far0 ?_ (by assumption) _ | refine Env.far1 ?_ (by assumption) _ | refine Env.farA ?_ (by assumption) _); assumption))) (fun hHeld => ?_); clear hK K; (try simp only [Act.put]))
      refine wpAnyH_ready (rs := [2, 6]) (by kernel_rfl) (by simp) ?_
      refine hCons 2 (by decide) ?_ (hCons 6 (by decide) ?_ AllReadyH.nil)
      · (intro oi hoi; simp only [List.getElem?_toArray, List.getElem?_cons_succ, List.getElem?_cons_zero] at hoi; obtain rfl := Option.some.inj hoi; clear hoi); intro K hK
        go_simp
        go_at_call 41
        refine (HTG.out _).mono ?_
        rintro r w6 ⟨P2, M2, S2, E2, R2, L2, gp, gm, gs, ge, gr, gl, rfl, hr2, hz2, hf2, hb2⟩
        have hEhb2 := Env.step hb2 (by assumption); (try (have hqhb2 := (by with_reducible first | exact Loc.below hb2 (Loc.new (Loc.nil _) _ _) | exact Loc.below hb2 (Loc.drew (Loc.new (Loc.nil _) _ _)) | exact Loc.below hb2 (by assumption : Loc _ [_])); (repeat rw [World.size_drew] at hqhb2); (repeat rw [World.size_alloc] at hqhb2); have hrhb2 := hqhb2; (repeat unfold Loc at hrhb2)))
        (refine hK.out _ _ (by (first | assumption | exact Env.step (by assumption) (by assumption) | exact Env.old (by assumption) _ | exact Env.drew hE | exact hE | exact Env.drew (by assumption) | exact Env.drew (Env.old (by assumption) _) | ((repeat first | refine Env.far0 ?_ (by assumption) _ | refine Env.far1 ?_ (by assumption) _ | refine Env.farA ?_ (by assumption) _); assumption))) (fun hHeld => ?_); clear hK K; (try simp only [Act.put]))
        refine hTake 3 (by kernel_rfl) (by kernel_rfl) (by kernel_rfl) (by decide) (by assumption) ?_; (intro oi hoi; simp only [List.getElem?_toArray, List.getElem?_cons_succ, List.getElem?_cons_zero] at hoi; obtain rfl := Option.some.inj hoi; clear hoi); refine ⟨rfl, ?_⟩; apply Exists.intro; refine ⟨?_, fun _ _ _ h => h, ?_⟩; (intro w hSw; (try dsimp only at hSw); go_simp; (try with_reducible rfl)); (try simp only [Act.put]); refine hTake 4 (by kernel_rfl) (by kernel_rfl) (by kernel_rfl) (by decide) (by assumption) ?_; (intro oi hoi; simp only [List.getElem?_toArray, List.getElem?_cons_succ, List.getElem?_cons_zero] at hoi; obtain rfl := Option.some.inj hoi; clear hoi); refine ⟨rfl, ?_⟩; apply Exists.intro; refine ⟨?_, fun _ _ _ h => h, ?_⟩; (intro w hSw; (try dsimp only at hSw); go_simp; (try with_reducible rfl)); (try simp only [Act.put]); refine hTake 5 (by kernel_rfl) (by kernel_rfl) (by kernel_rfl) (by decide) (by assumption) ?_; (intro oi hoi; simp only [List.getElem?_toArray, List.getElem?_cons_succ, List.getElem?_cons_zero] at hoi; obtain rfl := Option.some.inj hoi; clear hoi); refine ⟨rfl, ?_⟩; apply Exists.intro; refine ⟨?_, fun _ _ _ h => h, ?_⟩; (intro w hSw; (try dsimp only at hSw); go_simp; (try with_reducible rfl)); (try simp only [Act.put])
        refine hOnly 6 (by kernel_rfl) (by decide) ?_; (intro oi hoi; simp only [List.getElem?_toArray, List.getElem?_cons_succ, List.getElem?_cons_zero] at hoi; obtain rfl := Option.some.inj hoi; clear hoi); intro K hK; go_simp
        (refine hK.out _ _ (by (first | assumption | exact Env.step (by assumption) (by assumption) | exact Env.old (by assumption) _ | exact Env.drew hE | exact hE | exact Env.drew (by assumption) | exact Env.drew (Env.old (by assumption) _) | ((repeat first | refine Env.far0 ?_ (by assumption) _ | refine Env.far1 ?_ (by assumption) _ | refine Env.farA ?_ (by assumption) _); assumption))) (fun hHeld => ?_); clear hK K; (try simp only [Act.put]))
        refine hOnly 7 (by kernel_rfl) (by decide) ?_; (intro oi hoi; simp only [List.getElem?_toArray, List.getElem?_cons_succ, List.getElem?_cons_zero] at hoi; obtain rfl := Option.some.inj hoi; clear hoi); intro K hK; go_simp
        (refine hK.out _ _ (by (first | assumption | exact Env.step (by assumption) (by assumption) | exact Env.old (by assumption) _ | exact Env.drew hE | exact hE | exact Env.drew (by assumption) | exact Env.drew (Env.old (by assumption) _) | ((repeat first | refine Env.far0 ?_ (by assumption) _ | refine Env.far1 ?_ (by assumption) _ | refine Env.farA ?_ (by assumption) _); assumption))) (fun hHeld => ?_); clear hK K; (try simp only [Act.put]))
        refine hTake 8 (by kernel_rfl) (by kernel_rfl) (by kernel_rfl) (by decide) (by assumption) ?_; (intro oi hoi; simp only [List.getElem?_toArray, List.getElem?_cons_succ, List.getElem?_cons_zero] at hoi; obtain rfl := Option.some.inj hoi; clear hoi); refine ⟨rfl, ?_⟩; apply Exists.intro; refine ⟨?_, fun _ _ _ h => h, ?_⟩; (intro w hSw; (try dsimp only at hSw); go_simp; (try with_reducible rfl)); (try simp only [Act.put])
        refine wpAnyH_done (by kernel_rfl) ?_ _
        go_wp2_with fail
        rw [HT.out]
        simp only [List.setIfInBounds_toArray]
        go_meet
        case rel => exact tkr_late ((below_drew (Below.refl _ _)).trans hb1) hb2 hr2 hz2 hf2
      · (intro oi hoi; simp only [List.getElem?_toArray, List.getElem?_cons_succ, List.getElem?_cons_zero] at hoi; obtain rfl := Option.some.inj hoi; clear hoi); intro K hK
        go_simp
        (refine hK.out _ _ (by (first | assumption | exact Env.step (by assumption) (by assumption) | exact Env.old (by assumption) _ | exact Env.drew hE | exact hE | exact Env.drew (by assumption) | exact Env.drew (Env.old (by assumption) _) | ((repeat first | refine Env.far0 ?_ (by assumption) _ | refine Env.far1 ?_ (by assumption) _ | refine Env.farA ?_ (by assumption) _); assumption))) (fun hHeld => ?_); clear hK K; (try simp only [Act.put]))
        refine hOnly 2 (by kernel_rfl) (by decide) ?_; (intro oi hoi; simp only [List.getElem?_toArray, List.getElem?_cons_succ, List.getElem?_cons_zero] at hoi; obtain rfl := Option.some.inj hoi; clear hoi); intro K hK; go_simp
        go_at_call 41
        refine (HTG.out _).mono ?_
        rintro r w6 ⟨P2, M2, S2, E2, R2, L2, gp, gm, gs, ge, gr, gl, rfl, hr2, hz2, hf2, hb2⟩
        have hEhb2 := Env.step hb2 (by assumption); (try (have hqhb2 := (by with_reducible first | exact Loc.below hb2 (Loc.new (Loc.nil _) _ _) | exact Loc.below hb2 (Loc.drew (Loc.new (Loc.nil _) _ _)) | exact Loc.below hb2 (by assumption : Loc _ [_])); (repeat rw [World.size_drew] at hqhb2); (repeat rw [World.size_alloc] at hqhb2); have hrhb2 := hqhb2; (repeat unfold Loc at hrhb2)))
        (refine hK.out _ _ (by (first | assumption | exact Env.step (by assumption) (by assumption) | exact Env.old (by assumption) _ | exact Env.drew hE | exact hE | exact Env.drew (by assumption) | exact Env.drew (Env.old (by assumption) _) | ((repeat first | refine Env.far0 ?_ (by assumption) _ | refine Env.far1 ?_ (by assumption) _ | refine Env.farA ?_ (by assumption) _); assumption))) (fun hHeld => ?_); clear hK K; (try simp only [Act.put]))
        refine hTake 3 (by kernel_rfl) (by kernel_rfl) (by kernel_rfl) (by decide) (by assumption) ?_; (intro oi hoi; simp only [List.getElem?_toArray, List.getElem?_cons_succ, List.getElem?_cons_zero] at hoi; obtain rfl := Option.some.inj hoi; clear hoi); refine ⟨rfl, ?_⟩; apply Exists.intro; refine ⟨?_, fun _ _ _ h => h, ?_⟩; (intro w hSw; (try dsimp only at hSw); go_simp; (try with_reducible rfl)); (try simp only [Act.put]); refine hTake 4 (by kernel_rfl) (by kernel_rfl) (by kernel_rfl) (by decide) (by assumption) ?_; (intro oi hoi; simp only [List.getElem?_toArray, List.getElem?_cons_succ, List.getElem?_cons_zero] at hoi; obtain rfl := Option.some.inj hoi; clear hoi); refine ⟨rfl, ?_⟩; apply Exists.intro; refine ⟨?_, fun _ _ _ h => h, ?_⟩; (intro w hSw; (try dsimp only at hSw); go_simp; (try with_reducible rfl)); (try simp only [Act.put]); refine hTake 5 (by kernel_rfl) (by kernel_rfl) (by kernel_rfl) (by decide) (by assumption) ?_; (intro oi hoi; simp only [List.getElem?_toArray, List.getElem?_cons_succ, List.getElem?_cons_zero] at hoi; obtain rfl := Option.some.inj hoi; clear hoi); refine ⟨rfl, ?_⟩; apply Exists.intro; refine ⟨?_, fun _ _ _ h => h, ?_⟩; (intro w hSw; (try dsimp only at hSw); go_simp; (try with_reducible rfl)); (try simp only [Act.put])
        refine hOnly 7 (by kernel_rfl) (by decide) ?_; (intro oi hoi; simp only [List.getElem?_toArray, List.getElem?_cons_succ, List.getElem?_cons_zero] at hoi; obtain rfl := Option.some.inj hoi; clear hoi); intro K hK; go_simp
        (refine hK.out _ _ (env_put9 (by assumption) (show W.heap.size ≤ _ from hb1.size) _ _ _ _ _ _ _ _ _ (fun q hq => Nat.ne_of_lt (Env.lt2 hEhb1 q hq))) (fun hHeld => ?_); clear hK K; (try simp only [Act.put]))
        refine hTake 8 (by kernel_rfl) (by kernel_rfl) (by kernel_rfl) (by decide) (by assumption) ?_; (intro oi hoi; simp only [List.getElem?_toArray, List.getElem?_cons_succ, List.getElem?_cons_zero] at hoi; obtain rfl := Option.some.inj hoi; clear hoi); refine ⟨rfl, ?_⟩; apply Exists.intro; refine ⟨?_, fun _ _ _ h => h, ?_⟩; (intro w hSw; (try dsimp only at hSw); go_simp; (try with_reducible rfl)); (try simp only [Act.put])
        refine wpAnyH_done (by kernel_rfl) ?_ _
        go_wp2_with fail
        rw [HT.out]
        simp only [List.setIfInBounds_toArray]
        go_meet
        case rel => exact tkr_first (below_new ((below_drew (Below.refl _ _)).trans hb1) _) ((Loc.nil _).new [.int .u8 0, .int .i64 0, .int .i64 0, .slice none 0 0, .slice none 0 0, .slice none 0 0, .slice none 0 0, .slice none 0 0, .slice none 0 0] 67) hb1.size hb2 hr2 hz2 hf2
    · (intro oi hoi; simp only [List.getElem?_toArray, List.getElem?_cons_succ, List.getElem?_cons_zero] at hoi; obtain rfl := Option.some.inj hoi; clear hoi); intro K hK
      go_simp
      (refine hK.out _ _ (by (first | assumption | exact Env.step (by assumption) (by assumption) | exact Env.old (by assumption) _ | exact Env.drew hE | exact hE | exact Env.drew (by assumption) | exact Env.drew (Env.old (by assumption) _) | ((repeat first | refine Env.far0 ?_ (by assumption) _ | refine Env.far1 ?_ (by assumption) _ | refine Env.farA ?_ (by assumption) _); assumption))) (fun hHeld => ?_); clear hK K; (try simp only [Act.put]))
      refine hOnly 0 (by kernel_rfl) (by decide) ?_; (intro oi hoi; simp only [List.getElem?_toArray, List.getElem?_cons_zero] at hoi; obtain rfl := Option.some.inj hoi; clear hoi); intro K hK; go_simp
      go_at_call 44
      refine (HNEW.out _ _).mono ?_
      rintro r w5 ⟨rfl, hb1⟩
      have hEhb1 := Env.step hb1 (by assumption); (try (have hqhb1 := (by with_reducible first | exact Loc.below hb1 (Loc.new (Loc.nil _) _ _) | exact Loc.below hb1 (Loc.drew (Loc.new (Loc.nil _) _ _)) | exact Loc.below hb1 (by assumption : Loc _ [_])); (repeat rw [World.size_drew] at hqhb1); (repeat rw [World.size_alloc] at hqhb1); have hrhb1 := hqhb1; (repeat unfold Loc at hrhb1)))
      (refine hK.out _ _ (by (first | assumption | exact Env.step (by assumption) (by assumption) | exact Env.old (by assumption) _ | exact Env.drew hE | exact hE | exact Env.drew (by assumption) | exact Env.drew (Env.old (by assumption) _) | ((repeat first | refine Env.far0 ?_ (by assumption) _ | refine Env.far1 ?_ (by assumption) _ | refine Env.farA ?_ (by assumption) _); assumption))) (fun hHeld => ?_); clear hK K; (try simp only [Act.put]))
      refine hOnly 2 (by kernel_rfl) (by decide) ?_; (intro oi hoi; simp only [List.getElem?_toArray, List.getElem?_cons_succ, List.getElem?_cons_zero] at hoi; obtain rfl := Option.some.inj hoi; clear hoi); intro K hK; go_simp
      go_at_call 41
      refine (HTG.out _).mono ?_
      rintro r w6 ⟨P2, M2, S2, E2, R2, L2, gp, gm, gs, ge, gr, gl, rfl, hr2, hz2, hf2, hb2⟩
      have hEhb2 := Env.step hb2 (by assumption); (try (have hqhb2 := (by with_reducible first | exact Loc.below hb2 (Loc.new (Loc.nil _) _ _) | exact Loc.below hb2 (Loc.drew (Loc.new (Loc.nil _) _ _)) | exact Loc.below hb2 (by assumption : Loc _ [_])); (repeat rw [World.size_drew] at hqhb2); (repeat rw [World.size_alloc] at hqhb2); have hrhb2 := hqhb2; (repeat unfold Loc at hrhb2)))
      (refine hK.out _ _ (by (first | assumption | exact Env.step (by assumption) (by assumption) | exact Env.old (by assumption) _ | exact Env.drew hE | exact hE | exact Env.drew (by assumption) | exact Env.drew (Env.old (by assumption) _) | ((repeat first | refine Env.far0 ?_ (by assumption) _ | refine Env.far1 ?_ (by assumption) _ | refine Env.farA ?_ (by assumption) _); assumption))) (fun hHeld => ?_); clear hK K; (try simp only [Act.put]))
      refine hTake 3 (by kernel_rfl) (by kernel_rfl) (by kernel_rfl) (by decide) (by assumption) ?_; (intro oi hoi; simp only [List.getElem?_toArray, List.getElem?_cons_succ, List.getElem?_cons_zero] at hoi; obtain rfl := Option.some.inj hoi; clear hoi); refine ⟨rfl, ?_⟩; apply Exists.intro; refine ⟨?_, fun _ _ _ h => h, ?_⟩; (intro w hSw; (try dsimp only at hSw); go_simp; (try with_reducible rfl)); (try simp only [Act.put]); refine hTake 4 (by kernel_rfl) (by kernel_rfl) (by kernel_rfl) (by decide) (by assumption) ?_; (intro oi hoi; simp only [List.getElem?_toArray, List.getElem?_cons_succ, List.getElem?_cons_zero] at hoi; obtain rfl := Option.some.inj hoi; clear hoi); refine ⟨rfl, ?_⟩; apply Exists.intro; refine ⟨?_, fun _ _ _ h => h, ?_⟩; (intro w hSw; (try dsimp only at hSw); go_simp; (try with_reducible rfl)); (try simp only [Act.put]); refine hTake 5 (by kernel_rfl) (by kernel_rfl) (by kernel_rfl) (by decide) (by assumption) ?_; (intro oi hoi; simp only [List.getElem?_toArray, List.getElem?_cons_succ, List.getElem?_cons_zero] at hoi; obtain rfl := Option.some.inj hoi; clear hoi); refine ⟨rfl, ?_⟩; apply Exists.intro; refine ⟨?_, fun _ _ _ h => h, ?_⟩; (intro w hSw; (try dsimp only at hSw); go_simp; (try with_reducible rfl)); (try simp only [Act.put])
      refine hOnly 7 (by kernel_rfl) (by decide) ?_; (intro oi hoi; simp only [List.getElem?_toArray, List.getElem?_cons_succ, List.getElem?_cons_zero] at hoi; obtain rfl := Option.some.inj hoi; clear hoi); intro K hK; go_simp
      (refine hK.out _ _ (env_put9 (by assumption) (Nat.le_refl _) _ _ _ _ _ _ _ _ _ (fun q hq => Nat.ne_of_lt (Env.lt2 hE q hq))) (fun hHeld => ?_); clear hK K; (try simp only [Act.put]))
      refine hTake 8 (by kernel_rfl) (by kernel_rfl) (by kernel_rfl) (by decide) (by assumption) ?_; (intro oi hoi; simp only [List.getElem?_toArray, List.getElem?_cons_succ, List.getElem?_cons_zero] at hoi; obtain rfl := Option.some.inj hoi; clear hoi); refine ⟨rfl, ?_⟩; apply Exists.intro; refine ⟨?_, fun _ _ _ h => h, ?_⟩; (intro w hSw; (try dsimp only at hSw); go_simp; (try with_reducible rfl)); (try simp only [Act.put])
      refine wpAnyH_done (by kernel_rfl) ?_ _
      go_wp2_with fail
      rw [HT.out]
      simp only [List.setIfInBounds_toArray]
      go_meet
      case rel => exact tkr_first ((below_new (below_drew (Below.refl _ _)) _).trans (hb1.mono (by rw [World.size_drew, World.size_alloc]; exact Nat.le_succ _))) (by first | exact ((Loc.nil _).new [.int .u8 0, .int .i64 0, .int .i64 0, .slice none 0 0, .slice none 0 0, .slice none 0 0, .slice none 0 0, .slice none 0 0, .slice none 0 0] 67).below hb1 | exact (Loc.drew ((Loc.nil _).new [.int .u8 0, .int .i64 0, .int .i64 0, .slice none 0 0, .slice none 0 0, .slice none 0 0, .slice none 0 0, .slice none 0 0, .slice none 0 0] 67)).below hb1) (Nat.le_refl _) hb2 hr2 hz2 hf2
  case rest =>
  obtain ⟨cx, xP, xM, xS, xE, xR, xL, xp, xm, xs, xe, xr, xl, rfl, rfl, hcx, hlx, hrx, -, -, hbn⟩ := hcut
  replace hl := hl.below hbn
  replace hb := below_then hb hbn
  clear hbn
  clear hcx W
  obtain ⟨W, rfl⟩ : ∃ x, x = wc := ⟨_, rfl⟩
  go_upto_region 10 with (fail)
  go_cut [17, 18] from 88 to 93 (fun v8 v9 wx => TkS 7 [⟨1, 0, 0⟩] 1 0 W v8 v9 wx)
  case first =>
    obtain ⟨lE, hE, hRR⟩ := Env.abs (w0 := W) (Below.refl _ _) hl
    (repeat unfold Loc at hRR)
    refine frame_abs ?_
    intro T hT
    have hsz : T.size = 325 := by rw [hT]; rfl
    have hs1 : T.getD 1 undef = .pointer (some ⟨p1, 0, none⟩) := by rw [hT]; rfl
    have hs2 : T.getD 2 undef = .pointer (some ⟨p1 + 1, 0, none⟩) := by rw [hT]; rfl
    have HT := Lib.hid hT
    clear hT
    have hgs := getD_same; have hgn := getD_other
    refine wp_region_held_drew (S := Env W lE) (by kernel_rfl) (by (first | assumption | exact Env.step (by assumption) (by assumption) | exact Env.old (by assumption) _ | exact Env.drew hE | exact hE | exact Env.drew (by assumption) | exact Env.drew (Env.old (by assumption) _) | ((repeat first | refine Env.far0 ?_ (by assumption) _ | refine Env.far1 ?_ (by assumption) _ | refine Env.farA ?_ (by assumption) _); assumption))) (fun hHeld => ?_)
    refine hTake 1 (by kernel_rfl) (by kernel_rfl) (by kernel_rfl) (by decide) (by assumption) ?_; (intro oi hoi; simp only [List.getElem?_toArray, List.getElem?_cons_succ, List.getElem?_cons_zero] at hoi; obtain rfl := Option.some.inj hoi; clear hoi); refine ⟨rfl, ?_⟩; apply Exists.intro; refine ⟨?_, fun _ _ _ h => h, ?_⟩; (intro w hSw; (try dsimp only at hSw); go_simp; (try with_reducible rfl)); (try simp only [Act.put])
    refine wpAnyH_ready (rs := [0, 6]) (by kernel_rfl) (by simp) ?_
    refine hCons 0 (by decide) ?_ (hCons 6 (by decide) ?_ AllReadyH.nil)
    · (intro oi hoi; simp only [List.getElem?_toArray, List.getElem?_cons_zero] at hoi; obtain rfl := Option.some.inj hoi; clear hoi); intro K hK
      go_simp
      go_at_call 44
      refine (HNEW.out _ _).mono ?_
      rintro r w5 ⟨rfl, hb1⟩
      have hEhb1 := Env.step hb1 (by assumption); (try (have hqhb1 := (by with_reducible first | exact Loc.below hb1 (Loc.new (Loc.nil _) _ _) | exact Loc.below hb1 (Loc.drew (Loc.new (Loc.nil _) _ _)) | exact Loc.below hb1 (by assumption : Loc _ [_])); (repeat rw [World.size_drew] at hqhb1); (repeat rw [World.size_alloc] at hqhb1); have hrhb1 := hqhb1; (repeat unfold Loc at hrhb1)))
      (refine hK.out _ _ (by (first | assumption | exact Env.step (by assumption) (by assumption) | exact Env.old (by assumption) _ | exact Env.drew hE | exact hE | exact Env.drew (by assumption) | exact Env.drew (Env.old (by assumption) _) | ((repeat first | refine Env.far0 ?_ (by assumption) _ | refine Env.far1 ?_ (by assumption) _ | refine Env.farA ?_ (by assumption) _); assumption))) (fun hHeld => ?_); clear hK K; (try simp only [Act.put]))
      refine wpAnyH_ready (rs := [2, 6]) (by kernel_rfl) (by simp) ?_
      refine hCons 2 (by decide) ?_ (hCons 6 (by decide) ?_ AllReadyH.nil)
      · (intro oi hoi; simp only [List.getElem?_toArray, List.getElem?_cons_succ, List.getElem?_cons_zero] at hoi; obtain rfl := Option.some.inj hoi; clear hoi); intro K hK
        go_simp
        go_at_call 41
        refine (HTH.out _).mono ?_
        rintro r w6 ⟨P2, M2, S2, E2, R2, L2, gp, gm, gs, ge, gr, gl, rfl, hr2, hf2, hb2⟩
        have hEhb2 := Env.step hb2 (by assumption); (try (have hqhb2 := (by with_reducible first | exact Loc.below hb2 (Loc.new (Loc.nil _) _ _) | exact Loc.below hb2 (Loc.drew (Loc.new (Loc.nil _) _ _)) | exact Loc.below hb2 (by assumption : Loc _ [_])); (repeat rw [World.size_drew] at hqhb2); (repeat rw [World.size_alloc] at hqhb2); have hrhb2 := hqhb2; (repeat unfold Loc at hrhb2)))
        (refine hK.out _ _ (by (first | assumption | exact Env.step (by assumption) (by assumption) | exact Env.old (by assumption) _ | exact Env.drew hE | exact hE | exact Env.drew (by assumption) | exact Env.drew (Env.old (by assumption) _) | ((repeat first | refine Env.far0 ?_ (by assumption) _ | refine Env.far1 ?_ (by assumption) _ | refine Env.farA ?_ (by assumption) _); assumption))) (fun hHeld => ?_); clear hK K; (try simp only [Act.put]))
        refine hTake 3 (by kernel_rfl) (by kernel_rfl) (by kernel_rfl) (by decide) (by assumption) ?_; (intro oi hoi; simp only [List.getElem?_toArray, List.getElem?_cons_succ, List.getElem?_cons_zero] at hoi; obtain rfl := Option.some.inj hoi; clear hoi); refine ⟨rfl, ?_⟩; apply Exists.intro; refine ⟨?_, fun _ _ _ h => h, ?_⟩; (intro w hSw; (try dsimp only at hSw); go_simp; (try with_reducible rfl)); (try simp only [Act.put]); refine hTake 4 (by kernel_rfl) (by kernel_rfl) (by kernel_rfl) (by decide) (by assumption) ?_; (intro oi hoi; simp only [List.getElem?_toArray, List.getElem?_cons_succ, List.getElem?_cons_zero] at hoi; obtain rfl := Option.some.inj hoi; clear hoi); refine ⟨rfl, ?_⟩; apply Exists.intro; refine ⟨?_, fun _ _ _ h => h, ?_⟩; (intro w hSw; (try dsimp only at hSw); go_simp; (try with_reducible rfl)); (try simp only [Act.put]); refine hTake 5 (by kernel_rfl) (by kernel_rfl) (by kernel_rfl) (by decide) (by assumption) ?_; (intro oi hoi; simp only [List.getElem?_toArray, List.getElem?_cons_succ, List.getElem?_cons_zero] at hoi; obtain rfl := Option.some.inj hoi; clear hoi); refine ⟨rfl, ?_⟩; apply Exists.intro; refine ⟨?_, fun _ _ _ h => h, ?_⟩; (intro w hSw; (try dsimp only at hSw); go_simp; (try with_reducible rfl)); (try simp only [Act.put])
        refine hOnly 6 (by kernel_rfl) (by decide) ?_; (intro oi hoi; simp only [List.getElem?_toArray, List.getElem?_cons_succ, List.getElem?_cons_zero] at hoi; obtain rfl := Option.some.inj hoi; clear hoi); intro K hK; go_simp
        (refine hK.out _ _ (by (first | assumption | exact Env.step (by assumption) (by assumption) | exact Env.old (by assumption) _ | exact Env.drew hE | exact hE | exact Env.drew (by assumption) | exact Env.drew (Env.old (by assumption) _) | ((repeat first | refine Env.far0 ?_ (by assumption) _ | refine Env.far1 ?_ (by assumption) _ | refine Env.farA ?_ (by assumption) _); assumption))) (fun hHeld => ?_); clear hK K; (try simp only [Act.put]))
        refine hOnly 7 (by kernel_rfl) (by decide) ?_; (intro oi hoi; simp only [List.getElem?_toArray, List.getElem?_cons_succ, List.getElem?_cons_zero] at hoi; obtain rfl := Option.some.inj hoi; clear hoi); intro K hK; go_simp
        (refine hK.out _ _ (by (first | assumption | exact Env.step (by assumption) (by assumption) | exact Env.old (by assumption) _ | exact Env.drew hE | exact hE | exact Env.drew (by assumption) | exact Env.drew (Env.old (by assumption) _) | ((repeat first | refine Env.far0 ?_ (by assumption) _ | refine Env.far1 ?_ (by assumption) _ | refine Env.farA ?_ (by assumption) _); assumption))) (fun hHeld => ?_); clear hK K; (try simp only [Act.put]))
        refine hTake 8 (by kernel_rfl) (by kernel_rfl) (by kernel_rfl) (by decide) (by assumption) ?_; (intro oi hoi; simp only [List.getElem?_toArray, List.getElem?_cons_succ, List.getElem?_cons_zero] at hoi; obtain rfl := Option.some.inj hoi; clear hoi); refine ⟨rfl, ?_⟩; apply Exists.intro; refine ⟨?_, fun _ _ _ h => h, ?_⟩; (intro w hSw; (try dsimp only at hSw); go_simp; (try with_reducible rfl)); (try simp only [Act.put])
        refine wpAnyH_done (by kernel_rfl) ?_ _
        go_wp2_with fail
        rw [HT.out]
        simp only [List.setIfInBounds_toArray]
        go_meet
        case rel => exact tks_late ((below_drew (Below.refl _ _)).trans hb1) hb2 hr2
      · (intro oi hoi; simp only [List.getElem?_toArray, List.getElem?_cons_succ, List.getElem?_cons_zero] at hoi; obtain rfl := Option.some.inj hoi; clear hoi); intro K hK
        go_simp
        (refine hK.out _ _ (by (first | assumption | exact Env.step (by assumption) (by assumption) | exact Env.old (by assumption) _ | exact Env.drew hE | exact hE | exact Env.drew (by assumption) | exact Env.drew (Env.old (by assumption) _) | ((repeat first | refine Env.far0 ?_ (by assumption) _ | refine Env.far1 ?_ (by assumption) _ | refine Env.farA ?_ (by assumption) _); assumption))) (fun hHeld => ?_); clear hK K; (try simp only [Act.put]))
        refine hOnly 2 (by kernel_rfl) (by decide) ?_; (intro oi hoi; simp only [List.getElem?_toArray, List.getElem?_cons_succ, List.getElem?_cons_zero] at hoi; obtain rfl := Option.some.inj hoi; clear hoi); intro K hK; go_simp
        go_at_call 41
        refine (HTH.out _).mono ?_
        rintro r w6 ⟨P2, M2, S2, E2, R2, L2, gp, gm, gs, ge, gr, gl, rfl, hr2, hf2, hb2⟩
        have hEhb2 := Env.step hb2 (by assumption); (try (have hqhb2 := (by with_reducible first | exact Loc.below hb2 (Loc.new (Loc.nil _) _ _) | exact Loc.below hb2 (Loc.drew (Loc.new (Loc.nil _) _ _)) | exact Loc.below hb2 (by assumption : Loc _ [_])); (repeat rw [World.size_drew] at hqhb2); (repeat rw [World.size_alloc] at hqhb2); have hrhb2 := hqhb2; (repeat unfold Loc at hrhb2)))
        (refine hK.out _ _ (by (first | assumption | exact Env.step (by assumption) (by assumption) | exact Env.old (by assumption) _ | exact Env.drew hE | exact hE | exact Env.drew (by assumption) | exact Env.drew (Env.old (by assumption) _) | ((repeat first | refine Env.far0 ?_ (by assumption) _ | refine Env.far1 ?_ (by assumption) _ | refine Env.farA ?_ (by assumption) _); assumption))) (fun hHeld => ?_); clear hK K; (try simp only [Act.put]))
        refine hTake 3 (by kernel_rfl) (by kernel_rfl) (by kernel_rfl) (by decide) (by assumption) ?_; (intro oi hoi; simp only [List.getElem?_toArray, List.getElem?_cons_succ, List.getElem?_cons_zero] at hoi; obtain rfl := Option.some.inj hoi; clear hoi); refine ⟨rfl, ?_⟩; apply Exists.intro; refine ⟨?_, fun _ _ _ h => h, ?_⟩; (intro w hSw; (try dsimp only at hSw); go_simp; (try with_reducible rfl)); (try simp only [Act.put]); refine hTake 4 (by kernel_rfl) (by kernel_rfl) (by kernel_rfl) (by decide) (by assumption) ?_; (intro oi hoi; simp only [List.getElem?_toArray, List.getElem?_cons_succ, List.getElem?_cons_zero] at hoi; obtain rfl := Option.some.inj hoi; clear hoi); refine ⟨rfl, ?_⟩; apply Exists.intro; refine ⟨?_, fun _ _ _ h => h, ?_⟩; (intro w hSw; (try dsimp only at hSw); go_simp; (try with_reducible rfl)); (try simp only [Act.put]); refine hTake 5 (by kernel_rfl) (by kernel_rfl) (by kernel_rfl) (by decide) (by assumption) ?_; (intro oi hoi; simp only [List.getElem?_toArray, List.getElem?_cons_succ, List.getElem?_cons_zero] at hoi; obtain rfl := Option.some.inj hoi; clear hoi); refine ⟨rfl, ?_⟩; apply Exists.intro; refine ⟨?_, fun _ _ _ h => h, ?_⟩; (intro w hSw; (try dsimp only at hSw); go_simp; (try with_reducible rfl)); (try simp only [Act.put])
        refine hOnly 7 (by kernel_rfl) (by decide) ?_; (intro oi hoi; simp only [List.getElem?_toArray, List.getElem?_cons_succ, List.getElem?_cons_zero] at hoi; obtain rfl := Option.some.inj hoi; clear hoi); intro K hK; go_simp
        (refine hK.out _ _ (env_put9 (by assumption) (show W.heap.size ≤ _ from hb1.size) _ _ _ _ _ _ _ _ _ (fun q hq => Nat.ne_of_lt (Env.lt2 hEhb1 q hq))) (fun hHeld => ?_); clear hK K; (try simp only [Act.put]))
        refine hTake 8 (by kernel_rfl) (by kernel_rfl) (by kernel_rfl) (by decide) (by assumption) ?_; (intro oi hoi; simp only [List.getElem?_toArray, List.getElem?_cons_succ, List.getElem?_cons_zero] at hoi; obtain rfl := Option.some.inj hoi; clear hoi); refine ⟨rfl, ?_⟩; apply Exists.intro; refine ⟨?_, fun _ _ _ h => h, ?_⟩; (intro w hSw; (try dsimp only at hSw); go_simp; (try with_reducible rfl)); (try simp only [Act.put])
        refine wpAnyH_done (by kernel_rfl) ?_ _
        go_wp2_with fail
        rw [HT.out]
        simp only [List.setIfInBounds_toArray]
        go_meet
        case rel => exact tks_first (below_new ((below_drew (Below.refl _ _)).trans hb1) _) ((Loc.nil _).new [.int .u8 0, .int .i64 0, .int .i64 0, .slice none 0 0, .slice none 0 0, .slice none 0 0, .slice none 0 0, .slice none 0 0, .slice none 0 0] 67) hb1.size hb2 hr2 hf2
    · (intro oi hoi; simp only [List.getElem?_toArray, List.getElem?_cons_succ, List.getElem?_cons_zero] at hoi; obtain rfl := Option.some.inj hoi; clear hoi); intro K hK
      go_simp
      (refine hK.out _ _ (by (first | assumption | exact Env.step (by assumption) (by assumption) | exact Env.old (by assumption) _ | exact Env.drew hE | exact hE | exact Env.drew (by assumption) | exact Env.drew (Env.old (by assumption) _) | ((repeat first | refine Env.far0 ?_ (by assumption) _ | refine Env.far1 ?_ (by assumption) _ | refine Env.farA ?_ (by assumption) _); assumption))) (fun hHeld => ?_); clear hK K; (try simp only [Act.put]))
      refine hOnly 0 (by kernel_rfl) (by decide) ?_; (intro oi hoi; simp only [List.getElem?_toArray, List.getElem?_cons_zero] at hoi; obtain rfl := Option.some.inj hoi; clear hoi); intro K hK; go_simp
      go_at_call 44
      refine (HNEW.out _ _).mono ?_
      rintro r w5 ⟨rfl, hb1⟩
      have hEhb1 := Env.step hb1 (by assumption); (try (have hqhb1 := (by with_reducible first | exact Loc.below hb1 (Loc.new (Loc.nil _) _ _) | exact Loc.below hb1 (Loc.drew (Loc.new (Loc.nil _) _ _)) | exact Loc.below hb1 (by assumption : Loc _ [_])); (repeat rw [World.size_drew] at hqhb1); (repeat rw [World.size_alloc] at hqhb1); have hrhb1 := hqhb1; (repeat unfold Loc at hrhb1)))
      (refine hK.out _ _ (by (first | assumption | exact Env.step (by assumption) (by assumption) | exact Env.old (by assumption) _ | exact Env.drew hE | exact hE | exact Env.drew (by assumption) | exact Env.drew (Env.old (by assumption) _) | ((repeat first | refine Env.far0 ?_ (by assumption) _ | refine Env.far1 ?_ (by assumption) _ | refine Env.farA ?_ (by assumption) _); assumption))) (fun hHeld => ?_); clear hK K; (try simp only [Act.put]))
      refine hOnly 2 (by kernel_rfl) (by decide) ?_; (intro oi hoi; simp only [List.getElem?_toArray, List.getElem?_cons_succ, List.getElem?_cons_zero] at hoi; obtain rfl := Option.some.inj hoi; clear hoi); intro K hK; go_simp
      go_at_call 41
      refine (HTH.out _).mono ?_
      rintro r w6 ⟨P2, M2, S2, E2, R2, L2, gp, gm, gs, ge, gr, gl, rfl, hr2, hf2, hb2⟩
      have hEhb2 := Env.step hb2 (by assumption); (try (have hqhb2 := (by with_reducible first | exact Loc.below hb2 (Loc.new (Loc.nil _) _ _) | exact Loc.below hb2 (Loc.drew (Loc.new (Loc.nil _) _ _)) | exact Loc.below hb2 (by assumption : Loc _ [_])); (repeat rw [World.size_drew] at hqhb2); (repeat rw [World.size_alloc] at hqhb2); have hrhb2 := hqhb2; (repeat unfold Loc at hrhb2)))
      (refine hK.out _ _ (by (first | assumption | exact Env.step (by assumption) (by assumption) | exact Env.old (by assumption) _ | exact Env.drew hE | exact hE | exact Env.drew (by assumption) | exact Env.drew (Env.old (by assumption) _) | ((repeat first | refine Env.far0 ?_ (by assumption) _ | refine Env.far1 ?_ (by assumption) _ | refine Env.farA ?_ (by assumption) _); assumption))) (fun hHeld => ?_); clear hK K; (try simp only [Act.put]))
      refine hTake 3 (by kernel_rfl) (by kernel_rfl) (by kernel_rfl) (by decide) (by assumption) ?_; (intro oi hoi; simp only [List.getElem?_toArray, List.getElem?_cons_succ, List.getElem?_cons_zero] at hoi; obtain rfl := Option.some.inj hoi; clear hoi); refine ⟨rfl, ?_⟩; apply Exists.intro; refine ⟨?_, fun _ _ _ h => h, ?_⟩; (intro w hSw; (try dsimp only at hSw); go_simp; (try with_reducible rfl)); (try simp only [Act.put]); refine hTake 4 (by kernel_rfl) (by kernel_rfl) (by kernel_rfl) (by decide) (by assumption) ?_; (intro oi hoi; simp only [List.getElem?_toArray, List.getElem?_cons_succ, List.getElem?_cons_zero] at hoi; obtain rfl := Option.some.inj hoi; clear hoi); refine ⟨rfl, ?_⟩; apply Exists.intro; refine ⟨?_, fun _ _ _ h => h, ?_⟩; (intro w hSw; (try dsimp only at hSw); go_simp; (try with_reducible rfl)); (try simp only [Act.put]); refine hTake 5 (by kernel_rfl) (by kernel_rfl) (by kernel_rfl) (by decide) (by assumption) ?_; (intro oi hoi; simp only [List.getElem?_toArray, List.getElem?_cons_succ, List.getElem?_cons_zero] at hoi; obtain rfl := Option.some.inj hoi; clear hoi); refine ⟨rfl, ?_⟩; apply Exists.intro; refine ⟨?_, fun _ _ _ h => h, ?_⟩; (intro w hSw; (try dsimp only at hSw); go_simp; (try with_reducible rfl)); (try simp only [Act.put])
      refine hOnly 7 (by kernel_rfl) (by decide) ?_; (intro oi hoi; simp only [List.getElem?_toArray, List.getElem?_cons_succ, List.getElem?_cons_zero] at hoi; obtain rfl := Option.some.inj hoi; clear hoi); intro K hK; go_simp
      (refine hK.out _ _ (env_put9 (by assumption) (Nat.le_refl _) _ _ _ _ _ _ _ _ _ (fun q hq => Nat.ne_of_lt (Env.lt2 hE q hq))) (fun hHeld => ?_); clear hK K; (try simp only [Act.put]))
      refine hTake 8 (by kernel_rfl) (by kernel_rfl) (by kernel_rfl) (by decide) (by assumption) ?_; (intro oi hoi; simp only [List.getElem?_toArray, List.getElem?_cons_succ, List.getElem?_cons_zero] at hoi; obtain rfl := Option.some.inj hoi; clear hoi); refine ⟨rfl, ?_⟩; apply Exists.intro; refine ⟨?_, fun _ _ _ h => h, ?_⟩; (intro w hSw; (try dsimp only at hSw); go_simp; (try with_reducible rfl)); (try simp only [Act.put])
      refine wpAnyH_done (by kernel_rfl) ?_ _
      go_wp2_with fail
      rw [HT.out]
      simp only [List.setIfInBounds_toArray]
      go_meet
      case rel => exact tks_first ((below_new (below_drew (Below.refl _ _)) _).trans (hb1.mono (by rw [World.size_drew, World.size_alloc]; exact Nat.le_succ _))) (by first | exact ((Loc.nil _).new [.int .u8 0, .int .i64 0, .int .i64 0, .slice none 0 0, .slice none 0 0, .slice none 0 0, .slice none 0 0, .slice none 0 0, .slice none 0 0] 67).below hb1 | exact (Loc.drew ((Loc.nil _).new [.int .u8 0, .int .i64 0, .int .i64 0, .slice none 0 0, .slice none 0 0, .slice none 0 0, .slice none 0 0, .slice none 0 0, .slice none 0 0] 67)).below hb1) (Nat.le_refl _) hb2 hr2 hf2
  case rest =>
  obtain ⟨cy, yP, yM, yS, yE, yR, yL, yp, ym, ys, ye, yr, yl, rfl, rfl, hcy, hly, hry, hbn⟩ := hcut
  replace hl := hl.below hbn
  replace hlx := hlx.below hbn
  replace hrx := rd_grown hrx hbn
  replace hb := below_then hb hbn
  clear hbn
  clear hcy W
  obtain ⟨W, rfl⟩ : ∃ x, x = wc := ⟨_, rfl⟩
  go_upto_region 12 with (fail)
  obtain ⟨Z, hZ, hlF, hqZ, hbZ⟩ : ∃ Z, Z = W.alloc (.cells #[.int .u8 6, .int .i64 0, .int .i64 0, .slice none 0 0, .slice none 0 0, .slice none 0 0, .slice none 0 0, .slice none 0 0, .slice none 0 0] 67) ∧ Loc Z [(W.heap.size, [.int .u8 6, .int .i64 0, .int .i64 0, .slice none 0 0, .slice none 0 0, .slice none 0 0, .slice none 0 0, .slice none 0 0, .slice none 0 0])] ∧ W.heap.size < Z.heap.size ∧ Below W.heap.size W Z := ⟨_, rfl, (Loc.nil W).new [.int .u8 6, .int .i64 0, .int .i64 0, .slice none 0 0, .slice none 0 0, .slice none 0 0, .slice none 0 0, .slice none 0 0, .slice none 0 0] 67, by rw [World.size_alloc]; exact Nat.lt_succ_self _, below_new (Below.refl _ _) _⟩
  rw [← hZ]
  obtain ⟨BB, hBB⟩ : ∃ BB, Z.heap.size = BB := ⟨_, rfl⟩
  obtain ⟨qF, hqF⟩ : ∃ q, W.heap.size = q := ⟨_, rfl⟩
  rw [hqF] at hlF hqZ
  simp only [hqF]
  have hqB : qF < BB := by rw [← hBB]; exact hqZ
  have HBB := Lib.hid hBB; have HQF := Lib.hid hqF
  clear hZ hBB hqF hqZ
  go_wp2_with fail
  go_loopw [20] (fun iv wr => ∃ (k : Nat) (A : Option Addr) (cA : Nat), k ≤ 4000 ∧ iv = .int .i64 k ∧ Own wenc 5 wr BB 72 (.slice A k cA) (List.replicate k (⟨0, 0, 10, 0, 0⟩ : Rw)) ∧ (A = none → cA = 0) ∧ Loc wr [(qF, [.int .u8 6, .int .i64 0, .int .i64 0, .slice none 0 0, .slice none 0 0, .slice none 0 0, .slice none 0 0, .slice A k cA, .slice none 0 0])] ∧ Below W.heap.size W wr ∧ BB ≤ wr.heap.size) (fun iv _ => 4000 - (intOf iv).toNat)
  case atStart => exact ⟨0, none, 0, by omega, rfl, Own.nil _ _ _, fun _ => rfl, hlF, hbZ, by rw [HBB.out]; exact Nat.le_refl _⟩
  case round =>
  obtain ⟨k, A, cA, hk, rfl, hown, hz, hlk, hbr, hsr⟩ := hrel
  clear hlF hbZ
  by_cases hlt : k < 4000
  · have d1 : decide ((k : Int) < 4000) = true := by simp; omega
    have d1' : decide (k < 4000) = true := by simp [hlt]
    have e1 : IntKind.i64.wrap ((k : Int) + 1) = (k : Int) + 1 := IntWalk.i64_in _ (by omega)
    have hlen : (List.replicate k (⟨0, 0, 10, 0, 0⟩ : Rw)).length = k := List.length_replicate
    have hlen1 : (List.replicate k (⟨0, 0, 10, 0, 0⟩ : Rw) ++ [(⟨0, 0, 10, 0, 0⟩ : Rw)]).length = k + 1 := by rw [List.length_append, hlen]; rfl
    have HLEN := Lib.hid hlen; have HLEN1 := Lib.hid hlen1; have HZ := Lib.hid hz; have HLT := Lib.hid hlt
    clear hlen hlen1 hz hlt
    go_upto_region 15 with (fail)
    obtain ⟨lE, hE, hR⟩ := Env.abs (w0 := wr) (Below.refl _ _) hlk
    have hR0 := hR
    (repeat unfold Loc at hR)
    obtain ⟨i0, hi0, hz0, hz1, hz2⟩ := info_parts w_info
    refine wp_region_L (by kernel_rfl) (PhS [4] (Env wr lE)) ?_
    refine lTake 0 (by kernel_rfl) (by kernel_rfl) (by kernel_rfl) (by decide) (fun L w => PhS.set (by decide)) (by first | exact PhS.of (by (first | assumption | exact Env.step (by assumption) (by assumption) | exact Env.old (by assumption) _ | exact Env.drew hE | exact hE | exact Env.drew (by assumption) | exact Env.drew (Env.old (by assumption) _) | ((repeat first | refine Env.far0 ?_ (by assumption) _ | refine Env.far1 ?_ (by assumption) _ | refine Env.farA ?_ (by assumption) _); assumption))) | exact PhS.done (by kernel_rfl)) ?_; (intro oi hoi; simp only [List.getElem?_toArray, List.getElem?_cons_zero] at hoi; obtain rfl := Option.some.inj hoi; clear hoi); refine ⟨rfl, ?_⟩; apply Exists.intro; refine ⟨?_, fun _ _ _ h => h, ?_⟩; (intro w; go_simp; (try with_reducible rfl)); (try simp only [Act.put])
    refine lLoad 1 4 (by kernel_rfl) (by kernel_rfl) (by kernel_rfl) (by decide) (fun L w => PhS.set (by decide)) (PhS.of (by (first | assumption | exact Env.step (by assumption) (by assumption) | exact Env.old (by assumption) _ | exact Env.drew hE | exact hE | exact Env.drew (by assumption) | exact Env.drew (Env.old (by assumption) _) | ((repeat first | refine Env.far0 ?_ (by assumption) _ | refine Env.far1 ?_ (by assumption) _ | refine Env.farA ?_ (by assumption) _); assumption)))) (by intro oc hoc; simp only [List.getElem?_toArray, List.getElem?_cons_succ, List.getElem?_cons_zero] at hoc; obtain rfl := Option.some.inj hoc; kernel_rfl) (by kernel_rfl) (by decide) (fun L w => PhS.get (by decide)) ?_; (intro oi hoi; simp only [List.getElem?_toArray, List.getElem?_cons_succ, List.getElem?_cons_zero] at hoi; obtain rfl := Option.some.inj hoi; clear hoi); refine ⟨rfl, ?_⟩; apply Exists.intro; refine ⟨?_, fun _ _ _ h => h, ?_⟩; (intro w hSw; (try dsimp only at hSw); go_simp; (try with_reducible rfl)); (try simp only [Act.put])
    refine lOnly 2 (by kernel_rfl) (by decide) ?_; (intro oi hoi; simp only [List.getElem?_toArray, List.getElem?_cons_succ, List.getElem?_cons_zero] at hoi; obtain rfl := Option.some.inj hoi; clear hoi); intro K hK; go_simp
    go_at_call 71
    refine (span34_any _ _ _).mono ?_
    rintro r w5 ⟨rfl, hb5⟩
    have hE5 : Env wr lE w5 := Env.step hb5 (by (first | assumption | exact Env.step (by assumption) (by assumption) | exact Env.old (by assumption) _ | exact Env.drew hE | exact hE | exact Env.drew (by assumption) | exact Env.drew (Env.old (by assumption) _) | ((repeat first | refine Env.far0 ?_ (by assumption) _ | refine Env.far1 ?_ (by assumption) _ | refine Env.farA ?_ (by assumption) _); assumption)))
    have hX5 : Below wr.heap.size wr w5 := (below_drew (Below.refl _ _)).trans hb5
    (refine hK.out _ _ (by first | exact PhS.of (by (first | assumption | exact Env.step (by assumption) (by assumption) | exact Env.old (by assumption) _ | exact Env.drew hE | exact hE | exact Env.drew (by assumption) | exact Env.drew (Env.old (by assumption) _) | ((repeat first | refine Env.far0 ?_ (by assumption) _ | refine Env.far1 ?_ (by assumption) _ | refine Env.farA ?_ (by assumption) _); assumption))) | exact PhS.done (by kernel_rfl)) ?_; clear hK K; (try simp only [Act.put]))
    refine lOnly 3 (by kernel_rfl) (by decide) ?_; (intro oi hoi; simp only [List.getElem?_toArray, List.getElem?_cons_succ, List.getElem?_cons_zero] at hoi; obtain rfl := Option.some.inj hoi; clear hoi); intro K hK; go_simp
    (refine hK.out _ _ (by first | exact PhS.of (by (first | assumption | exact Env.step (by assumption) (by assumption) | exact Env.old (by assumption) _ | exact Env.drew hE | exact hE | exact Env.drew (by assumption) | exact Env.drew (Env.old (by assumption) _) | ((repeat first | refine Env.far0 ?_ (by assumption) _ | refine Env.far1 ?_ (by assumption) _ | refine Env.farA ?_ (by assumption) _); assumption))) | exact PhS.done (by kernel_rfl)) ?_; clear hK K; (try simp only [Act.put]))
    refine lOnly 4 (by kernel_rfl) (by decide) ?_; (intro oi hoi; simp only [List.getElem?_toArray, List.getElem?_cons_succ, List.getElem?_cons_zero] at hoi; obtain rfl := Option.some.inj hoi; clear hoi); intro K hK
    refine step_append_l2 rfl (.tmp 101) (.tmp 103) 64 rfl BB 72 i0 (.agg #[.int .i64 0, .int .i64 0, .int .i64 0, .int .i64 0, .int .i64 0]) 5 40 Try.underlying64 hi0 hz0 hz1 hz2 rfl (by decide) wenc wenc_len (.slice A k cA) (List.replicate k (⟨0, 0, 10, 0, 0⟩ : Rw)) [(⟨0, 0, 10, 0, 0⟩ : Rw)] rfl ((hown.below hX5).alloc (.cells #[.int .i64 0, .int .i64 0, .int .i64 10, .int .i64 0, .int .i64 0] 72)) ⟨w5.heap.size, 0, none⟩ 1 1 rfl rfl (w_new w5 (⟨0, 0, 10, 0, 0⟩ : Rw) 72 w5.heap.size rfl) (wenc_one _) (by unfold maxLen; rw [HLEN.out]; have := HLT.out; omega) (by rw [HLEN.out]; have := HLT.out; omega) (by rw [World.size_alloc]; have := hX5.size; omega) ?_
    intro v7 w7 own7 hgr7 hb7 hsf
    obtain ⟨A7, c7, rfl, -, y7⟩ := own_shape_z own7 HLEN1.out
    have hk7 : ∀ q, (Value.slice A k cA).ownBlock = some q → BB ≤ q ∧ q < wr.heap.size := fun q hq => World.ownsRow.lt hown q hq
    have hl7 := ((hR0 _ hE5).old (.cells #[.int .i64 0, .int .i64 0, .int .i64 10, .int .i64 0, .int .i64 0] 72)).grown hgr7 (fun q hq e => by have hh := (hk7 q.1 e.symm).1; simp at hq; subst hq; dsimp only at hh; omega)
    have hbx7 : Below W.heap.size W w7 := (below_new (below_then hbr hX5) (.cells #[.int .i64 0, .int .i64 0, .int .i64 10, .int .i64 0, .int .i64 0] 72)).trans (below_of_grown hgr7 (fun q hq => by have := (hk7 q hq).1; have := HQF.out; omega) (by rw [World.size_alloc]; exact Nat.le_trans (below_then hbr hX5).size (Nat.le_succ _)))
    have hF7 := hl7
    (repeat unfold Loc at hF7)
    (refine hK.out _ _ (by first | exact PhS.of (by (first | assumption | exact Env.step (by assumption) (by assumption) | exact Env.old (by assumption) _ | exact Env.drew hE | exact hE | exact Env.drew (by assumption) | exact Env.drew (Env.old (by assumption) _) | ((repeat first | refine Env.far0 ?_ (by assumption) _ | refine Env.far1 ?_ (by assumption) _ | refine Env.farA ?_ (by assumption) _); assumption))) | exact PhS.done (by kernel_rfl)) ?_; clear hK K; (try simp only [Act.put]))
    refine lTake 5 (by kernel_rfl) (by kernel_rfl) (by kernel_rfl) (by decide) (fun L w => PhS.set (by decide)) (by first | exact PhS.of (by (first | assumption | exact Env.step (by assumption) (by assumption) | exact Env.old (by assumption) _ | exact Env.drew hE | exact hE | exact Env.drew (by assumption) | exact Env.drew (Env.old (by assumption) _) | ((repeat first | refine Env.far0 ?_ (by assumption) _ | refine Env.far1 ?_ (by assumption) _ | refine Env.farA ?_ (by assumption) _); assumption))) | exact PhS.done (by kernel_rfl)) ?_; (intro oi hoi; simp only [List.getElem?_toArray, List.getElem?_cons_succ, List.getElem?_cons_zero] at hoi; obtain rfl := Option.some.inj hoi; clear hoi); refine ⟨rfl, ?_⟩; apply Exists.intro; refine ⟨?_, fun _ _ _ h => h, ?_⟩; (intro w; go_simp; (try with_reducible rfl)); (try simp only [Act.put])
    refine lOnly 6 (by kernel_rfl) (by decide) ?_; (intro oi hoi; simp only [List.getElem?_toArray, List.getElem?_cons_succ, List.getElem?_cons_zero] at hoi; obtain rfl := Option.some.inj hoi; clear hoi); intro K hK; go_simp
    (refine hK.out _ _ (by first | exact PhS.of (by (first | assumption | exact Env.step (by assumption) (by assumption) | exact Env.old (by assumption) _ | exact Env.drew hE | exact hE | exact Env.drew (by assumption) | exact Env.drew (Env.old (by assumption) _) | ((repeat first | refine Env.far0 ?_ (by assumption) _ | refine Env.far1 ?_ (by assumption) _ | refine Env.farA ?_ (by assumption) _); assumption))) | exact PhS.done (by kernel_rfl)) ?_; clear hK K; (try simp only [Act.put]))
    refine lDone (by kernel_rfl) ?_ _
    clear hR hR0 hE hE5
    go_wp2_with fail
    go_roundw
    case rel => exact ⟨k + 1, A7, c7, HLT.out, by go_num, by rw [List.replicate_succ']; exact own_cell own7 hqB 7 _, y7, hl7.put (by simp) 7 _ (by simp), below_put hbx7 (by rw [HQF.out]; exact Nat.le_refl _) _, by rw [World.size_setCell]; exact Nat.le_trans hsr (Nat.le_trans hX5.size (Nat.le_trans (by rw [World.size_alloc]; exact Nat.le_succ _) hgr7.size))⟩
    case measure => simp [intOf] <;> (have := HLT.out; omega)
  obtain rfl : k = 4000 := by omega
  have d1 : decide (((4000 : Nat) : Int) < 4000) = false := by simp
  have d1' : decide (4000 < 4000) = false := by simp
  have hbn := hbr
  have hrF : Rd wenc 5 wr wr.heap.size A n4k := (Own.rd wenc_len hown).more (Nat.le_refl _)
  clear hown hlt hk hsr HBB hqB hbr
  replace hl := hl.below hbn
  replace hlx := hlx.below hbn
  replace hly := hly.below hbn
  replace hrx := rd_grown hrx hbn
  replace hry := rd_grown hry hbn
  replace hb := below_then hb hbn
  clear hbn
  clear HQF
  obtain ⟨W, rfl⟩ : ∃ x, x = wr := ⟨_, rfl⟩
  go_upto_region 16 with (fail)
  go_cut [21, 22] from 106 to 111 (fun _ v9 wx => v9 = .int .i64 4 ∧ Below W.heap.size W wx)
  case first =>
    have hF := hl; have hF2 := hlk
    (repeat unfold Loc at hF hF2)
    go_wp2_with fail
    go_at_call 41
    refine (tkFull A cA _ hz hrF).mono ?_
    rintro r w6 ⟨P2, M2, S2, E2, R2, L2, gp, gm, gs, ge, gr, gl, rfl, hb2⟩
    go_wp2_with fail
    go_meet
    case rel => exact ⟨rfl, tke_box (Below.refl _ _) hb2⟩
  case rest =>
  obtain ⟨rfl, hbn⟩ := hcut
  replace hl := hl.below hbn
  replace hlx := hlx.below hbn
  replace hly := hly.below hbn
  replace hrx := rd_grown hrx hbn
  replace hry := rd_grown hry hbn
  replace hb := below_then hb hbn
  clear hbn
  obtain ⟨W, rfl⟩ : ∃ x, x = wc := ⟨_, rfl⟩
  clear hlk hrF hz
  go_upto_region 17 with (fail)
  go_cut [23, 24] from 112 to 116 (fun _ v9 wx => v9 = .int .i64 4 ∧ Below W.heap.size W wx)
  case first =>
    have hm := HM1.out
    go_wp2_with fail
    go_at_call 48
    refine (C41.out _ _ (by have := HR1.out W; rwa [← World.size_alloc W (.cells M1 72)] at this)).mono ?_
    rintro r w6 ⟨v, rfl, -, hb2⟩
    go_wp2_with fail
    go_meet
    case rel => exact ⟨rfl, below_then (below_new (Below.refl _ _) _) hb2⟩
  case rest =>
  obtain ⟨rfl, hbn⟩ := hcut
  replace hl := hl.below hbn
  replace hlx := hlx.below hbn
  replace hly := hly.below hbn
  replace hrx := rd_grown hrx hbn
  replace hry := rd_grown hry hbn
  replace hb := below_then hb hbn
  clear hbn
  obtain ⟨W, rfl⟩ : ∃ x, x = wc := ⟨_, rfl⟩
  go_upto_region 18 with (fail)
  go_cut [25, 26] from 117 to 121 (fun _ v9 wx => v9 = .int .i64 4 ∧ Below W.heap.size W wx)
  case first =>
    have hm := HM3.out
    go_wp2_with fail
    go_at_call 47
    refine (D41.out _ _ (by have := HR3.out W; rwa [← World.size_alloc W (.cells M3 69)] at this)).mono ?_
    rintro r w6 ⟨v, rfl, -, hb2⟩
    go_wp2_with fail
    go_meet
    case rel => exact ⟨rfl, below_then (below_new (Below.refl _ _) _) hb2⟩
  case rest =>
  obtain ⟨rfl, hbn⟩ := hcut
  replace hl := hl.below hbn
  replace hlx := hlx.below hbn
  replace hly := hly.below hbn
  replace hrx := rd_grown hrx hbn
  replace hry := rd_grown hry hbn
  replace hb := below_then hb hbn
  clear hbn
  obtain ⟨W, rfl⟩ : ∃ x, x = wc := ⟨_, rfl⟩
  go_upto_region 19 with (fail)
  go_cut [27, 28] from 122 to 126 (fun _ v9 wx => v9 = .int .i64 4 ∧ Below W.heap.size W wx)
  case first =>
    have hm := HM1.out
    go_wp2_with fail
    go_at_call 49
    refine (S41.out _ _ (by have := HR1.out W; rwa [← World.size_alloc W (.cells M1 72)] at this)).mono ?_
    rintro r w6 ⟨rfl, hb2⟩
    go_wp2_with fail
    go_meet
    case rel => exact ⟨rfl, below_then (below_new (Below.refl _ _) _) hb2⟩
  case rest =>
  obtain ⟨rfl, hbn⟩ := hcut
  replace hl := hl.below hbn
  replace hlx := hlx.below hbn
  replace hly := hly.below hbn
  replace hrx := rd_grown hrx hbn
  replace hry := rd_grown hry hbn
  replace hb := below_then hb hbn
  clear hbn
  obtain ⟨W, rfl⟩ : ∃ x, x = wc := ⟨_, rfl⟩
  go_upto_region 20 with (fail)
  go_cut [29, 30] from 127 to 131 (fun v8 v9 wx => (∃ A c, v8 = .slice A 4000 c) ∧ v9 = .int .i64 0 ∧ Below W.heap.size W wx)
  case first =>
    have hm := HM2.out
    go_wp2_with fail
    go_at_call 48
    refine (C40.out _ _ (by have := HR2.out W; rwa [← World.size_alloc W (.cells M2 72)] at this)).mono ?_
    rintro r w6 ⟨v, rfl, own6, hb2⟩
    obtain ⟨A6, c6, rfl, -, -⟩ := own_shape_z own6 HSL.out
    go_wp2_with fail
    go_meet
    case rel => exact ⟨⟨_, _, rfl⟩, rfl, below_then (below_new (Below.refl _ _) _) hb2⟩
  case rest =>
  obtain ⟨⟨A29, c29, rfl⟩, rfl, hbn⟩ := hcut
  replace hl := hl.below hbn
  replace hlx := hlx.below hbn
  replace hly := hly.below hbn
  replace hrx := rd_grown hrx hbn
  replace hry := rd_grown hry hbn
  replace hb := below_then hb hbn
  clear hbn
  obtain ⟨W, rfl⟩ : ∃ x, x = wc := ⟨_, rfl⟩
  clear HM1 HM2 HM3 HR1 HR2 HR3 C41 D41 S41 C40 HSL
  go_upto_region 23 with (fail)
  obtain ⟨Z, hZ, hlr, hlc, hbn, hrr, hrc⟩ : ∃ Z, Z = (W.alloc (.cells #[.int .i64 0, .int .i64 0, .int .i64 0, .int .i64 0, .int .i64 0, .int .i64 0, .int .i64 0, .int .i64 0, .int .i64 0, .int .i64 1, .int .i64 0, .int .i64 0, .int .i64 0, .int .i64 1, .int .i64 (-1), .int .i64 1, .int .i64 0, .int .i64 0, .int .i64 (-5), .int .i64 (-5), .int .i64 (-1), .int .i64 1, .int .i64 0, .int .i64 0, .int .i64 0, .int .i64 0, .int .i64 (-9), .int .i64 1, .int .i64 0, .int .i64 0] 72)).alloc (.cells #[.int .i64 0, .int .i64 0, .int .i64 0, .int .i64 0, .int .i64 0, .int .i64 1, .int .i64 1, .int .i64 0, .int .i64 (-1), .int .i64 (-1), .int .i64 1, .int .i64 0] 69) ∧ Loc Z [(W.heap.size, [.int .i64 0, .int .i64 0, .int .i64 0, .int .i64 0, .int .i64 0, .int .i64 0, .int .i64 0, .int .i64 0, .int .i64 0, .int .i64 1, .int .i64 0, .int .i64 0, .int .i64 0, .int .i64 1, .int .i64 (-1), .int .i64 1, .int .i64 0, .int .i64 0, .int .i64 (-5), .int .i64 (-5), .int .i64 (-1), .int .i64 1, .int .i64 0, .int .i64 0, .int .i64 0, .int .i64 0, .int .i64 (-9), .int .i64 1, .int .i64 0, .int .i64 0])] ∧ Loc Z [(W.heap.size + 1, [.int .i64 0, .int .i64 0, .int .i64 0, .int .i64 0, .int .i64 0, .int .i64 1, .int .i64 1, .int .i64 0, .int .i64 (-1), .int .i64 (-1), .int .i64 1, .int .i64 0])] ∧ Below W.heap.size W Z ∧ Rd wenc 5 Z Z.heap.size (some ⟨W.heap.size, 0, none⟩) [⟨0, 0, 0, 0, 0⟩, ⟨0, 0, 0, 0, 1⟩, ⟨0, 0, 0, 1, -1⟩, ⟨1, 0, 0, -5, -5⟩, ⟨-1, 1, 0, 0, 0⟩, ⟨0, -9, 1, 0, 0⟩] ∧ Rd renc 3 Z Z.heap.size (some ⟨W.heap.size + 1, 0, none⟩) [⟨0, 0, 0⟩, ⟨0, 0, 1⟩, ⟨1, 0, -1⟩, ⟨-1, 1, 0⟩] := by
    have g := (Loc.nil (W.alloc (.cells #[.int .i64 0, .int .i64 0, .int .i64 0, .int .i64 0, .int .i64 0, .int .i64 0, .int .i64 0, .int .i64 0, .int .i64 0, .int .i64 1, .int .i64 0, .int .i64 0, .int .i64 0, .int .i64 1, .int .i64 (-1), .int .i64 1, .int .i64 0, .int .i64 0, .int .i64 (-5), .int .i64 (-5), .int .i64 (-1), .int .i64 1, .int .i64 0, .int .i64 0, .int .i64 0, .int .i64 0, .int .i64 (-9), .int .i64 1, .int .i64 0, .int .i64 0] 72))).new [.int .i64 0, .int .i64 0, .int .i64 0, .int .i64 0, .int .i64 0, .int .i64 1, .int .i64 1, .int .i64 0, .int .i64 (-1), .int .i64 (-1), .int .i64 1, .int .i64 0] 69
    have h2 := rd_lit2 renc_len (W.alloc (.cells #[.int .i64 0, .int .i64 0, .int .i64 0, .int .i64 0, .int .i64 0, .int .i64 0, .int .i64 0, .int .i64 0, .int .i64 0, .int .i64 1, .int .i64 0, .int .i64 0, .int .i64 0, .int .i64 1, .int .i64 (-1), .int .i64 1, .int .i64 0, .int .i64 0, .int .i64 (-5), .int .i64 (-5), .int .i64 (-1), .int .i64 1, .int .i64 0, .int .i64 0, .int .i64 0, .int .i64 0, .int .i64 (-9), .int .i64 1, .int .i64 0, .int .i64 0] 72)) [⟨0, 0, 0⟩, ⟨0, 0, 1⟩, ⟨1, 0, -1⟩, ⟨-1, 1, 0⟩] 69 #[.int .i64 0, .int .i64 0, .int .i64 0, .int .i64 0, .int .i64 0, .int .i64 1, .int .i64 1, .int .i64 0, .int .i64 (-1), .int .i64 (-1), .int .i64 1, .int .i64 0] rfl
    have h1 := rd_grown (rd_lit2 wenc_len W [⟨0, 0, 0, 0, 0⟩, ⟨0, 0, 0, 0, 1⟩, ⟨0, 0, 0, 1, -1⟩, ⟨1, 0, 0, -5, -5⟩, ⟨-1, 1, 0, 0, 0⟩, ⟨0, -9, 1, 0, 0⟩] 72 #[.int .i64 0, .int .i64 0, .int .i64 0, .int .i64 0, .int .i64 0, .int .i64 0, .int .i64 0, .int .i64 0, .int .i64 0, .int .i64 1, .int .i64 0, .int .i64 0, .int .i64 0, .int .i64 1, .int .i64 (-1), .int .i64 1, .int .i64 0, .int .i64 0, .int .i64 (-5), .int .i64 (-5), .int .i64 (-1), .int .i64 1, .int .i64 0, .int .i64 0, .int .i64 0, .int .i64 0, .int .i64 (-9), .int .i64 1, .int .i64 0, .int .i64 0] rfl) (below_new (Below.refl _ _) (.cells #[.int .i64 0, .int .i64 0, .int .i64 0, .int .i64 0, .int .i64 0, .int .i64 1, .int .i64 1, .int .i64 0, .int .i64 (-1), .int .i64 (-1), .int .i64 1, .int .i64 0] 69))
    rw [World.size_alloc W (.cells #[.int .i64 0, .int .i64 0, .int .i64 0, .int .i64 0, .int .i64 0, .int .i64 0, .int .i64 0, .int .i64 0, .int .i64 0, .int .i64 1, .int .i64 0, .int .i64 0, .int .i64 0, .int .i64 1, .int .i64 (-1), .int .i64 1, .int .i64 0, .int .i64 0, .int .i64 (-5), .int .i64 (-5), .int .i64 (-1), .int .i64 1, .int .i64 0, .int .i64 0, .int .i64 0, .int .i64 0, .int .i64 (-9), .int .i64 1, .int .i64 0, .int .i64 0] 72)] at g
    refine ⟨_, rfl, ((Loc.nil W).new [.int .i64 0, .int .i64 0, .int .i64 0, .int .i64 0, .int .i64 0, .int .i64 0, .int .i64 0, .int .i64 0, .int .i64 0, .int .i64 1, .int .i64 0, .int .i64 0, .int .i64 0, .int .i64 1, .int .i64 (-1), .int .i64 1, .int .i64 0, .int .i64 0, .int .i64 (-5), .int .i64 (-5), .int .i64 (-1), .int .i64 1, .int .i64 0, .int .i64 0, .int .i64 0, .int .i64 0, .int .i64 (-9), .int .i64 1, .int .i64 0, .int .i64 0] 72).old _, g, below_new (below_new (Below.refl _ _) _) _, h1, ?_⟩
    have e := World.size_alloc W (.cells #[.int .i64 0, .int .i64 0, .int .i64 0, .int .i64 0, .int .i64 0, .int .i64 0, .int .i64 0, .int .i64 0, .int .i64 0, .int .i64 1, .int .i64 0, .int .i64 0, .int .i64 0, .int .i64 1, .int .i64 (-1), .int .i64 1, .int .i64 0, .int .i64 0, .int .i64 (-5), .int .i64 (-5), .int .i64 (-1), .int .i64 1, .int .i64 0, .int .i64 0, .int .i64 0, .int .i64 0, .int .i64 (-9), .int .i64 1, .int .i64 0, .int .i64 0] 72)
    rw [← e]
    exact h2
  obtain ⟨pr, hpr⟩ : ∃ q, W.heap.size = q := ⟨_, rfl⟩
  rw [hpr] at hlr hlc hrr hrc
  rw [← hZ]
  simp only [hpr]
  replace hl := hl.below hbn
  replace hlx := hlx.below hbn
  replace hly := hly.below hbn
  replace hrx := rd_grown hrx hbn
  replace hry := rd_grown hry hbn
  replace hb := below_then hb hbn
  clear hbn
  clear hZ hpr W
  obtain ⟨W, rfl⟩ : ∃ x, x = Z := ⟨_, rfl⟩
  go_upto_region 23 with (fail)
  go_cut [33, 34] from 149 to 171 (fun v8 v9 wx => (∃ A c, v8 = .slice A 6 c ∧ Rd wenc 5 wx wx.heap.size A [⟨0, 0, 0, 0, 0⟩, ⟨0, 0, 0, 0, 1⟩, ⟨0, 0, 0, 1, -1⟩, ⟨1, 0, 0, -5, -5⟩, ⟨-1, 1, 0, 0, 0⟩, ⟨0, -9, 1, 0, 0⟩]) ∧ v9 = .int .i64 0 ∧ Below W.heap.size W wx)
  case first =>
    obtain ⟨lE, hE, hRR⟩ := Env.abs (w0 := W) (Below.refl _ _) hlr
    (repeat unfold Loc at hRR)
    refine wp_region_held_drew (S := Env W lE) (by kernel_rfl) (by (first | assumption | exact Env.step (by assumption) (by assumption) | exact Env.old (by assumption) _ | exact Env.drew hE | exact hE | exact Env.drew (by assumption) | exact Env.drew (Env.old (by assumption) _) | ((repeat first | refine Env.far0 ?_ (by assumption) _ | refine Env.far1 ?_ (by assumption) _ | refine Env.farA ?_ (by assumption) _); assumption))) (fun hHeld => ?_)
    refine hTake 0 (by kernel_rfl) (by kernel_rfl) (by kernel_rfl) (by decide) (by assumption) ?_; (intro oi hoi; simp only [List.getElem?_toArray, List.getElem?_cons_zero] at hoi; obtain rfl := Option.some.inj hoi; clear hoi); refine ⟨rfl, ?_⟩; apply Exists.intro; refine ⟨?_, fun _ _ _ h => h, ?_⟩; (intro w hSw; (try dsimp only at hSw); go_simp; (try with_reducible rfl)); (try simp only [Act.put]); refine hTake 1 (by kernel_rfl) (by kernel_rfl) (by kernel_rfl) (by decide) (by assumption) ?_; (intro oi hoi; simp only [List.getElem?_toArray, List.getElem?_cons_succ, List.getElem?_cons_zero] at hoi; obtain rfl := Option.some.inj hoi; clear hoi); refine ⟨rfl, ?_⟩; apply Exists.intro; refine ⟨?_, fun _ _ _ h => h, ?_⟩; (intro w hSw; (try dsimp only at hSw); go_simp; (try with_reducible rfl)); (try simp only [Act.put]); refine hTake 2 (by kernel_rfl) (by kernel_rfl) (by kernel_rfl) (by decide) (by assumption) ?_; (intro oi hoi; simp only [List.getElem?_toArray, List.getElem?_cons_succ, List.getElem?_cons_zero] at hoi; obtain rfl := Option.some.inj hoi; clear hoi); refine ⟨rfl, ?_⟩; apply Exists.intro; refine ⟨?_, fun _ _ _ h => h, ?_⟩; (intro w hSw; (try dsimp only at hSw); go_simp; (try with_reducible rfl)); (try simp only [Act.put]); refine hTake 3 (by kernel_rfl) (by kernel_rfl) (by kernel_rfl) (by decide) (by assumption) ?_; (intro oi hoi; simp only [List.getElem?_toArray, List.getElem?_cons_succ, List.getElem?_cons_zero] at hoi; obtain rfl := Option.some.inj hoi; clear hoi); refine ⟨rfl, ?_⟩; apply Exists.intro; refine ⟨?_, fun _ _ _ h => h, ?_⟩; (intro w hSw; (try dsimp only at hSw); go_simp; (try with_reducible rfl)); (try simp only [Act.put]); refine hTake 4 (by kernel_rfl) (by kernel_rfl) (by kernel_rfl) (by decide) (by assumption) ?_; (intro oi hoi; simp only [List.getElem?_toArray, List.getElem?_cons_succ, List.getElem?_cons_zero] at hoi; obtain rfl := Option.some.inj hoi; clear hoi); refine ⟨rfl, ?_⟩; apply Exists.intro; refine ⟨?_, fun _ _ _ h => h, ?_⟩; (intro w hSw; (try dsimp only at hSw); go_simp; (try with_reducible rfl)); (try simp only [Act.put]); refine hTake 5 (by kernel_rfl) (by kernel_rfl) (by kernel_rfl) (by decide) (by assumption) ?_; (intro oi hoi; simp only [List.getElem?_toArray, List.getElem?_cons_succ, List.getElem?_cons_zero] at hoi; obtain rfl := Option.some.inj hoi; clear hoi); refine ⟨rfl, ?_⟩; apply Exists.intro; refine ⟨?_, fun _ _ _ h => h, ?_⟩; (intro w hSw; (try dsimp only at hSw); go_simp; (try with_reducible rfl)); (try simp only [Act.put]); refine hTake 6 (by kernel_rfl) (by kernel_rfl) (by kernel_rfl) (by decide) (by assumption) ?_; (intro oi hoi; simp only [List.getElem?_toArray, List.getElem?_cons_succ, List.getElem?_cons_zero] at hoi; obtain rfl := Option.some.inj hoi; clear hoi); refine ⟨rfl, ?_⟩; apply Exists.intro; refine ⟨?_, fun _ _ _ h => h, ?_⟩; (intro w hSw; (try dsimp only at hSw); go_simp; (try with_reducible rfl)); (try simp only [Act.put]); refine hTake 7 (by kernel_rfl) (by kernel_rfl) (by kernel_rfl) (by decide) (by assumption) ?_; (intro oi hoi; simp only [List.getElem?_toArray, List.getElem?_cons_succ, List.getElem?_cons_zero] at hoi; obtain rfl := Option.some.inj hoi; clear hoi); refine ⟨rfl, ?_⟩; apply Exists.intro; refine ⟨?_, fun _ _ _ h => h, ?_⟩; (intro w hSw; (try dsimp only at hSw); go_simp; (try with_reducible rfl)); (try simp only [Act.put]); refine hTake 8 (by kernel_rfl) (by kernel_rfl) (by kernel_rfl) (by decide) (by assumption) ?_; (intro oi hoi; simp only [List.getElem?_toArray, List.getElem?_cons_succ, List.getElem?_cons_zero] at hoi; obtain rfl := Option.some.inj hoi; clear hoi); refine ⟨rfl, ?_⟩; apply Exists.intro; refine ⟨?_, fun _ _ _ h => h, ?_⟩; (intro w hSw; (try dsimp only at hSw); go_simp; (try with_reducible rfl)); (try simp only [Act.put]); refine hTake 9 (by kernel_rfl) (by kernel_rfl) (by kernel_rfl) (by decide) (by assumption) ?_; (intro oi hoi; simp only [List.getElem?_toArray, List.getElem?_cons_succ, List.getElem?_cons_zero] at hoi; obtain rfl := Option.some.inj hoi; clear hoi); refine ⟨rfl, ?_⟩; apply Exists.intro; refine ⟨?_, fun _ _ _ h => h, ?_⟩; (intro w hSw; (try dsimp only at hSw); go_simp; (try with_reducible rfl)); (try simp only [Act.put]); refine hTake 10 (by kernel_rfl) (by kernel_rfl) (by kernel_rfl) (by decide) (by assumption) ?_; (intro oi hoi; simp only [List.getElem?_toArray, List.getElem?_cons_succ, List.getElem?_cons_zero] at hoi; obtain rfl := Option.some.inj hoi; clear hoi); refine ⟨rfl, ?_⟩; apply Exists.intro; refine ⟨?_, fun _ _ _ h => h, ?_⟩; (intro w hSw; (try dsimp only at hSw); go_simp; (try with_reducible rfl)); (try simp only [Act.put]); refine hTake 11 (by kernel_rfl) (by kernel_rfl) (by kernel_rfl) (by decide) (by assumption) ?_; (intro oi hoi; simp only [List.getElem?_toArray, List.getElem?_cons_succ, List.getElem?_cons_zero] at hoi; obtain rfl := Option.some.inj hoi; clear hoi); refine ⟨rfl, ?_⟩; apply Exists.intro; refine ⟨?_, fun _ _ _ h => h, ?_⟩; (intro w hSw; (try dsimp only at hSw); go_simp; (try with_reducible rfl)); (try simp only [Act.put]); refine hTake 12 (by kernel_rfl) (by kernel_rfl) (by kernel_rfl) (by decide) (by assumption) ?_; (intro oi hoi; simp only [List.getElem?_toArray, List.getElem?_cons_succ, List.getElem?_cons_zero] at hoi; obtain rfl := Option.some.inj hoi; clear hoi); refine ⟨rfl, ?_⟩; apply Exists.intro; refine ⟨?_, fun _ _ _ h => h, ?_⟩; (intro w hSw; (try dsimp only at hSw); go_simp; (try with_reducible rfl)); (try simp only [Act.put]); refine hTake 13 (by kernel_rfl) (by kernel_rfl) (by kernel_rfl) (by decide) (by assumption) ?_; (intro oi hoi; simp only [List.getElem?_toArray, List.getElem?_cons_succ, List.getElem?_cons_zero] at hoi; obtain rfl := Option.some.inj hoi; clear hoi); refine ⟨rfl, ?_⟩; apply Exists.intro; refine ⟨?_, fun _ _ _ h => h, ?_⟩; (intro w hSw; (try dsimp only at hSw); go_simp; (try with_reducible rfl)); (try simp only [Act.put]); refine hTake 14 (by kernel_rfl) (by kernel_rfl) (by kernel_rfl) (by decide) (by assumption) ?_; (intro oi hoi; simp only [List.getElem?_toArray, List.getElem?_cons_succ, List.getElem?_cons_zero] at hoi; obtain rfl := Option.some.inj hoi; clear hoi); refine ⟨rfl, ?_⟩; apply Exists.intro; refine ⟨?_, fun _ _ _ h => h, ?_⟩; (intro w hSw; (try dsimp only at hSw); go_simp; (try with_reducible rfl)); (try simp only [Act.put]); refine hTake 15 (by kernel_rfl) (by kernel_rfl) (by kernel_rfl) (by decide) (by assumption) ?_; (intro oi hoi; simp only [List.getElem?_toArray, List.getElem?_cons_succ, List.getElem?_cons_zero] at hoi; obtain rfl := Option.some.inj hoi; clear hoi); refine ⟨rfl, ?_⟩; apply Exists.intro; refine ⟨?_, fun _ _ _ h => h, ?_⟩; (intro w hSw; (try dsimp only at hSw); go_simp; (try with_reducible rfl)); (try simp only [Act.put]); refine hTake 16 (by kernel_rfl) (by kernel_rfl) (by kernel_rfl) (by decide) (by assumption) ?_; (intro oi hoi; simp only [List.getElem?_toArray, List.getElem?_cons_succ, List.getElem?_cons_zero] at hoi; obtain rfl := Option.some.inj hoi; clear hoi); refine ⟨rfl, ?_⟩; apply Exists.intro; refine ⟨?_, fun _ _ _ h => h, ?_⟩; (intro w hSw; (try dsimp only at hSw); go_simp; (try with_reducible rfl)); (try simp only [Act.put]); refine hTake 17 (by kernel_rfl) (by kernel_rfl) (by kernel_rfl) (by decide) (by assumption) ?_; (intro oi hoi; simp only [List.getElem?_toArray, List.getElem?_cons_succ, List.getElem?_cons_zero] at hoi; obtain rfl := Option.some.inj hoi; clear hoi); refine ⟨rfl, ?_⟩; apply Exists.intro; refine ⟨?_, fun _ _ _ h => h, ?_⟩; (intro w hSw; (try dsimp only at hSw); go_simp; (try with_reducible rfl)); (try simp only [Act.put])
    refine hOnly 18 (by kernel_rfl) (by decide) ?_; (intro oi hoi; simp only [List.getElem?_toArray, List.getElem?_cons_succ, List.getElem?_cons_zero] at hoi; obtain rfl := Option.some.inj hoi; clear hoi); intro K hK; go_simp
    (refine hK.out _ _ (by (first | assumption | exact Env.step (by assumption) (by assumption) | exact Env.old (by assumption) _ | exact Env.drew hE | exact hE | exact Env.drew (by assumption) | exact Env.drew (Env.old (by assumption) _) | ((repeat first | refine Env.far0 ?_ (by assumption) _ | refine Env.far1 ?_ (by assumption) _ | refine Env.farA ?_ (by assumption) _); assumption))) (fun hHeld => ?_); clear hK K; (try simp only [Act.put]))
    refine hOnly 19 (by kernel_rfl) (by decide) ?_; (intro oi hoi; simp only [List.getElem?_toArray, List.getElem?_cons_succ, List.getElem?_cons_zero] at hoi; obtain rfl := Option.some.inj hoi; clear hoi); intro K hK; go_simp
    go_at_call 48
    refine (C6.out _ _ _ (rd_lit2 wenc_len W.drew [⟨0, -9, 1, 0, 0⟩, ⟨-1, 1, 0, 0, 0⟩, ⟨1, 0, 0, -5, -5⟩, ⟨0, 0, 0, 1, -1⟩, ⟨0, 0, 0, 0, 1⟩, ⟨0, 0, 0, 0, 0⟩] _ _ rfl)).mono ?_
    rintro r w6 ⟨v, rfl, own6, hb2⟩
    obtain ⟨A6, c6, rfl, -, -⟩ := own_shape_z own6 (n := 6) rfl
    have hEhb2 := Env.step hb2 (by assumption); (try (have hqhb2 := (by with_reducible first | exact Loc.below hb2 (Loc.new (Loc.nil _) _ _) | exact Loc.below hb2 (Loc.drew (Loc.new (Loc.nil _) _ _)) | exact Loc.below hb2 (by assumption : Loc _ [_])); (repeat rw [World.size_drew] at hqhb2); (repeat rw [World.size_alloc] at hqhb2); have hrhb2 := hqhb2; (repeat unfold Loc at hrhb2)))
    (refine hK.out _ _ (by (first | assumption | exact Env.step (by assumption) (by assumption) | exact Env.old (by assumption) _ | exact Env.drew hE | exact hE | exact Env.drew (by assumption) | exact Env.drew (Env.old (by assumption) _) | ((repeat first | refine Env.far0 ?_ (by assumption) _ | refine Env.far1 ?_ (by assumption) _ | refine Env.farA ?_ (by assumption) _); assumption))) (fun hHeld => ?_); clear hK K; (try simp only [Act.put]))
    refine hTake 20 (by kernel_rfl) (by kernel_rfl) (by kernel_rfl) (by decide) (by assumption) ?_; (intro oi hoi; simp only [List.getElem?_toArray, List.getElem?_cons_succ, List.getElem?_cons_zero] at hoi; obtain rfl := Option.some.inj hoi; clear hoi); refine ⟨rfl, ?_⟩; apply Exists.intro; refine ⟨?_, fun _ _ _ h => h, ?_⟩; (intro w hSw; (try dsimp only at hSw); go_simp; (try with_reducible rfl)); (try simp only [Act.put]); refine hTake 21 (by kernel_rfl) (by kernel_rfl) (by kernel_rfl) (by decide) (by assumption) ?_; (intro oi hoi; simp only [List.getElem?_toArray, List.getElem?_cons_succ, List.getElem?_cons_zero] at hoi; obtain rfl := Option.some.inj hoi; clear hoi); refine ⟨rfl, ?_⟩; apply Exists.intro; refine ⟨?_, fun _ _ _ h => h, ?_⟩; (intro w hSw; (try dsimp only at hSw); go_simp; (try with_reducible rfl)); (try simp only [Act.put]); refine hTake 22 (by kernel_rfl) (by kernel_rfl) (by kernel_rfl) (by decide) (by assumption) ?_; (intro oi hoi; simp only [List.getElem?_toArray, List.getElem?_cons_succ, List.getElem?_cons_zero] at hoi; obtain rfl := Option.some.inj hoi; clear hoi); refine ⟨rfl, ?_⟩; apply Exists.intro; refine ⟨?_, fun _ _ _ h => h, ?_⟩; (intro w hSw; (try dsimp only at hSw); go_simp; (try with_reducible rfl)); (try simp only [Act.put]); refine hTake 23 (by kernel_rfl) (by kernel_rfl) (by kernel_rfl) (by decide) (by assumption) ?_; (intro oi hoi; simp only [List.getElem?_toArray, List.getElem?_cons_succ, List.getElem?_cons_zero] at hoi; obtain rfl := Option.some.inj hoi; clear hoi); refine ⟨rfl, ?_⟩; apply Exists.intro; refine ⟨?_, fun _ _ _ h => h, ?_⟩; (intro w hSw; (try dsimp only at hSw); go_simp; (try with_reducible rfl)); (try simp only [Act.put]); refine hTake 24 (by kernel_rfl) (by kernel_rfl) (by kernel_rfl) (by decide) (by assumption) ?_; (intro oi hoi; simp only [List.getElem?_toArray, List.getElem?_cons_succ, List.getElem?_cons_zero] at hoi; obtain rfl := Option.some.inj hoi; clear hoi); refine ⟨rfl, ?_⟩; apply Exists.intro; refine ⟨?_, fun _ _ _ h => h, ?_⟩; (intro w hSw; (try dsimp only at hSw); go_simp; (try with_reducible rfl)); (try simp only [Act.put])
    refine wpAnyH_done (by kernel_rfl) ?_ _
    go_wp2_with fail
    go_meet
    case rel => exact ⟨⟨_, _, rfl, Own.rd wenc_len own6⟩, rfl, below_then (below_new (below_drew (Below.refl _ _)) _) hb2⟩
  case rest =>
  obtain ⟨⟨A33, c33, rfl, hr33⟩, rfl, hbn⟩ := hcut
  replace hl := hl.below hbn
  replace hlx := hlx.below hbn
  replace hly := hly.below hbn
  replace hlr := hlr.below hbn
  replace hlc := hlc.below hbn
  replace hrx := rd_grown hrx hbn
  replace hry := rd_grown hry hbn
  replace hrr := rd_grown hrr hbn
  replace hrc := rd_grown hrc hbn
  replace hb := below_then hb hbn
  clear hbn
  obtain ⟨W, rfl⟩ : ∃ x, x = wc := ⟨_, rfl⟩
  go_upto_region 24 with (fail)
  go_cut [35, 36] from 172 to 188 (fun v8 v9 wx => (∃ A c, v8 = .slice A 4 c ∧ Rd renc 3 wx wx.heap.size A [⟨0, 0, 0⟩, ⟨0, 0, 1⟩, ⟨1, 0, -1⟩, ⟨-1, 1, 0⟩]) ∧ v9 = .int .i64 0 ∧ Below W.heap.size W wx)
  case first =>
    obtain ⟨lE, hE, hRR⟩ := Env.abs (w0 := W) (Below.refl _ _) hlc
    (repeat unfold Loc at hRR)
    refine wp_region_held_drew (S := Env W lE) (by kernel_rfl) (by (first | assumption | exact Env.step (by assumption) (by assumption) | exact Env.old (by assumption) _ | exact Env.drew hE | exact hE | exact Env.drew (by assumption) | exact Env.drew (Env.old (by assumption) _) | ((repeat first | refine Env.far0 ?_ (by assumption) _ | refine Env.far1 ?_ (by assumption) _ | refine Env.farA ?_ (by assumption) _); assumption))) (fun hHeld => ?_)
    refine hTake 0 (by kernel_rfl) (by kernel_rfl) (by kernel_rfl) (by decide) (by assumption) ?_; (intro oi hoi; simp only [List.getElem?_toArray, List.getElem?_cons_zero] at hoi; obtain rfl := Option.some.inj hoi; clear hoi); refine ⟨rfl, ?_⟩; apply Exists.intro; refine ⟨?_, fun _ _ _ h => h, ?_⟩; (intro w hSw; (try dsimp only at hSw); go_simp; (try with_reducible rfl)); (try simp only [Act.put]); refine hTake 1 (by kernel_rfl) (by kernel_rfl) (by kernel_rfl) (by decide) (by assumption) ?_; (intro oi hoi; simp only [List.getElem?_toArray, List.getElem?_cons_succ, List.getElem?_cons_zero] at hoi; obtain rfl := Option.some.inj hoi; clear hoi); refine ⟨rfl, ?_⟩; apply Exists.intro; refine ⟨?_, fun _ _ _ h => h, ?_⟩; (intro w hSw; (try dsimp only at hSw); go_simp; (try with_reducible rfl)); (try simp only [Act.put]); refine hTake 2 (by kernel_rfl) (by kernel_rfl) (by kernel_rfl) (by decide) (by assumption) ?_; (intro oi hoi; simp only [List.getElem?_toArray, List.getElem?_cons_succ, List.getElem?_cons_zero] at hoi; obtain rfl := Option.some.inj hoi; clear hoi); refine ⟨rfl, ?_⟩; apply Exists.intro; refine ⟨?_, fun _ _ _ h => h, ?_⟩; (intro w hSw; (try dsimp only at hSw); go_simp; (try with_reducible rfl)); (try simp only [Act.put]); refine hTake 3 (by kernel_rfl) (by kernel_rfl) (by kernel_rfl) (by decide) (by assumption) ?_; (intro oi hoi; simp only [List.getElem?_toArray, List.getElem?_cons_succ, List.getElem?_cons_zero] at hoi; obtain rfl := Option.some.inj hoi; clear hoi); refine ⟨rfl, ?_⟩; apply Exists.intro; refine ⟨?_, fun _ _ _ h => h, ?_⟩; (intro w hSw; (try dsimp only at hSw); go_simp; (try with_reducible rfl)); (try simp only [Act.put]); refine hTake 4 (by kernel_rfl) (by kernel_rfl) (by kernel_rfl) (by decide) (by assumption) ?_; (intro oi hoi; simp only [List.getElem?_toArray, List.getElem?_cons_succ, List.getElem?_cons_zero] at hoi; obtain rfl := Option.some.inj hoi; clear hoi); refine ⟨rfl, ?_⟩; apply Exists.intro; refine ⟨?_, fun _ _ _ h => h, ?_⟩; (intro w hSw; (try dsimp only at hSw); go_simp; (try with_reducible rfl)); (try simp only [Act.put]); refine hTake 5 (by kernel_rfl) (by kernel_rfl) (by kernel_rfl) (by decide) (by assumption) ?_; (intro oi hoi; simp only [List.getElem?_toArray, List.getElem?_cons_succ, List.getElem?_cons_zero] at hoi; obtain rfl := Option.some.inj hoi; clear hoi); refine ⟨rfl, ?_⟩; apply Exists.intro; refine ⟨?_, fun _ _ _ h => h, ?_⟩; (intro w hSw; (try dsimp only at hSw); go_simp; (try with_reducible rfl)); (try simp only [Act.put]); refine hTake 6 (by kernel_rfl) (by kernel_rfl) (by kernel_rfl) (by decide) (by assumption) ?_; (intro oi hoi; simp only [List.getElem?_toArray, List.getElem?_cons_succ, List.getElem?_cons_zero] at hoi; obtain rfl := Option.some.inj hoi; clear hoi); refine ⟨rfl, ?_⟩; apply Exists.intro; refine ⟨?_, fun _ _ _ h => h, ?_⟩; (intro w hSw; (try dsimp only at hSw); go_simp; (try with_reducible rfl)); (try simp only [Act.put]); refine hTake 7 (by kernel_rfl) (by kernel_rfl) (by kernel_rfl) (by decide) (by assumption) ?_; (intro oi hoi; simp only [List.getElem?_toArray, List.getElem?_cons_succ, List.getElem?_cons_zero] at hoi; obtain rfl := Option.some.inj hoi; clear hoi); refine ⟨rfl, ?_⟩; apply Exists.intro; refine ⟨?_, fun _ _ _ h => h, ?_⟩; (intro w hSw; (try dsimp only at hSw); go_simp; (try with_reducible rfl)); (try simp only [Act.put]); refine hTake 8 (by kernel_rfl) (by kernel_rfl) (by kernel_rfl) (by decide) (by assumption) ?_; (intro oi hoi; simp only [List.getElem?_toArray, List.getElem?_cons_succ, List.getElem?_cons_zero] at hoi; obtain rfl := Option.some.inj hoi; clear hoi); refine ⟨rfl, ?_⟩; apply Exists.intro; refine ⟨?_, fun _ _ _ h => h, ?_⟩; (intro w hSw; (try dsimp only at hSw); go_simp; (try with_reducible rfl)); (try simp only [Act.put]); refine hTake 9 (by kernel_rfl) (by kernel_rfl) (by kernel_rfl) (by decide) (by assumption) ?_; (intro oi hoi; simp only [List.getElem?_toArray, List.getElem?_cons_succ, List.getElem?_cons_zero] at hoi; obtain rfl := Option.some.inj hoi; clear hoi); refine ⟨rfl, ?_⟩; apply Exists.intro; refine ⟨?_, fun _ _ _ h => h, ?_⟩; (intro w hSw; (try dsimp only at hSw); go_simp; (try with_reducible rfl)); (try simp only [Act.put]); refine hTake 10 (by kernel_rfl) (by kernel_rfl) (by kernel_rfl) (by decide) (by assumption) ?_; (intro oi hoi; simp only [List.getElem?_toArray, List.getElem?_cons_succ, List.getElem?_cons_zero] at hoi; obtain rfl := Option.some.inj hoi; clear hoi); refine ⟨rfl, ?_⟩; apply Exists.intro; refine ⟨?_, fun _ _ _ h => h, ?_⟩; (intro w hSw; (try dsimp only at hSw); go_simp; (try with_reducible rfl)); (try simp only [Act.put]); refine hTake 11 (by kernel_rfl) (by kernel_rfl) (by kernel_rfl) (by decide) (by assumption) ?_; (intro oi hoi; simp only [List.getElem?_toArray, List.getElem?_cons_succ, List.getElem?_cons_zero] at hoi; obtain rfl := Option.some.inj hoi; clear hoi); refine ⟨rfl, ?_⟩; apply Exists.intro; refine ⟨?_, fun _ _ _ h => h, ?_⟩; (intro w hSw; (try dsimp only at hSw); go_simp; (try with_reducible rfl)); (try simp only [Act.put])
    refine hOnly 12 (by kernel_rfl) (by decide) ?_; (intro oi hoi; simp only [List.getElem?_toArray, List.getElem?_cons_succ, List.getElem?_cons_zero] at hoi; obtain rfl := Option.some.inj hoi; clear hoi); intro K hK; go_simp
    (refine hK.out _ _ (by (first | assumption | exact Env.step (by assumption) (by assumption) | exact Env.old (by assumption) _ | exact Env.drew hE | exact hE | exact Env.drew (by assumption) | exact Env.drew (Env.old (by assumption) _) | ((repeat first | refine Env.far0 ?_ (by assumption) _ | refine Env.far1 ?_ (by assumption) _ | refine Env.farA ?_ (by assumption) _); assumption))) (fun hHeld => ?_); clear hK K; (try simp only [Act.put]))
    refine hOnly 13 (by kernel_rfl) (by decide) ?_; (intro oi hoi; simp only [List.getElem?_toArray, List.getElem?_cons_succ, List.getElem?_cons_zero] at hoi; obtain rfl := Option.some.inj hoi; clear hoi); intro K hK; go_simp
    go_at_call 47
    refine (C4.out _ _ _ (rd_lit2 renc_len W.drew [⟨-1, 1, 0⟩, ⟨1, 0, -1⟩, ⟨0, 0, 1⟩, ⟨0, 0, 0⟩] _ _ rfl)).mono ?_
    rintro r w6 ⟨v, rfl, own6, hb2⟩
    obtain ⟨A6, c6, rfl, -, -⟩ := own_shape_z own6 (n := 4) rfl
    have hEhb2 := Env.step hb2 (by assumption); (try (have hqhb2 := (by with_reducible first | exact Loc.below hb2 (Loc.new (Loc.nil _) _ _) | exact Loc.below hb2 (Loc.drew (Loc.new (Loc.nil _) _ _)) | exact Loc.below hb2 (by assumption : Loc _ [_])); (repeat rw [World.size_drew] at hqhb2); (repeat rw [World.size_alloc] at hqhb2); have hrhb2 := hqhb2; (repeat unfold Loc at hrhb2)))
    (refine hK.out _ _ (by (first | assumption | exact Env.step (by assumption) (by assumption) | exact Env.old (by assumption) _ | exact Env.drew hE | exact hE | exact Env.drew (by assumption) | exact Env.drew (Env.old (by assumption) _) | ((repeat first | refine Env.far0 ?_ (by assumption) _ | refine Env.far1 ?_ (by assumption) _ | refine Env.farA ?_ (by assumption) _); assumption))) (fun hHeld => ?_); clear hK K; (try simp only [Act.put]))
    refine hTake 14 (by kernel_rfl) (by kernel_rfl) (by kernel_rfl) (by decide) (by assumption) ?_; (intro oi hoi; simp only [List.getElem?_toArray, List.getElem?_cons_succ, List.getElem?_cons_zero] at hoi; obtain rfl := Option.some.inj hoi; clear hoi); refine ⟨rfl, ?_⟩; apply Exists.intro; refine ⟨?_, fun _ _ _ h => h, ?_⟩; (intro w hSw; (try dsimp only at hSw); go_simp; (try with_reducible rfl)); (try simp only [Act.put]); refine hTake 15 (by kernel_rfl) (by kernel_rfl) (by kernel_rfl) (by decide) (by assumption) ?_; (intro oi hoi; simp only [List.getElem?_toArray, List.getElem?_cons_succ, List.getElem?_cons_zero] at hoi; obtain rfl := Option.some.inj hoi; clear hoi); refine ⟨rfl, ?_⟩; apply Exists.intro; refine ⟨?_, fun _ _ _ h => h, ?_⟩; (intro w hSw; (try dsimp only at hSw); go_simp; (try with_reducible rfl)); (try simp only [Act.put]); refine hTake 16 (by kernel_rfl) (by kernel_rfl) (by kernel_rfl) (by decide) (by assumption) ?_; (intro oi hoi; simp only [List.getElem?_toArray, List.getElem?_cons_succ, List.getElem?_cons_zero] at hoi; obtain rfl := Option.some.inj hoi; clear hoi); refine ⟨rfl, ?_⟩; apply Exists.intro; refine ⟨?_, fun _ _ _ h => h, ?_⟩; (intro w hSw; (try dsimp only at hSw); go_simp; (try with_reducible rfl)); (try simp only [Act.put]); refine hTake 17 (by kernel_rfl) (by kernel_rfl) (by kernel_rfl) (by decide) (by assumption) ?_; (intro oi hoi; simp only [List.getElem?_toArray, List.getElem?_cons_succ, List.getElem?_cons_zero] at hoi; obtain rfl := Option.some.inj hoi; clear hoi); refine ⟨rfl, ?_⟩; apply Exists.intro; refine ⟨?_, fun _ _ _ h => h, ?_⟩; (intro w hSw; (try dsimp only at hSw); go_simp; (try with_reducible rfl)); (try simp only [Act.put]); refine hTake 18 (by kernel_rfl) (by kernel_rfl) (by kernel_rfl) (by decide) (by assumption) ?_; (intro oi hoi; simp only [List.getElem?_toArray, List.getElem?_cons_succ, List.getElem?_cons_zero] at hoi; obtain rfl := Option.some.inj hoi; clear hoi); refine ⟨rfl, ?_⟩; apply Exists.intro; refine ⟨?_, fun _ _ _ h => h, ?_⟩; (intro w hSw; (try dsimp only at hSw); go_simp; (try with_reducible rfl)); (try simp only [Act.put])
    refine wpAnyH_done (by kernel_rfl) ?_ _
    go_wp2_with fail
    go_meet
    case rel => exact ⟨⟨_, _, rfl, Own.rd renc_len own6⟩, rfl, below_then (below_new (below_drew (Below.refl _ _)) _) hb2⟩
  case rest =>
  obtain ⟨⟨A35, c35, rfl, hr35⟩, rfl, hbn⟩ := hcut
  replace hl := hl.below hbn
  replace hlx := hlx.below hbn
  replace hly := hly.below hbn
  replace hlr := hlr.below hbn
  replace hlc := hlc.below hbn
  replace hrx := rd_grown hrx hbn
  replace hry := rd_grown hry hbn
  replace hrr := rd_grown hrr hbn
  replace hrc := rd_grown hrc hbn
  replace hr33 := rd_grown hr33 hbn
  replace hb := below_then hb hbn
  clear hbn
  obtain ⟨W, rfl⟩ : ∃ x, x = wc := ⟨_, rfl⟩
  go_upto_region 25 with (fail)
  go_cut [37, 38] from 189 to 201 (fun v8 v9 wx => v8 = .bool true ∧ v9 = .int .i64 0 ∧ Below W.heap.size W wx)
  case first =>
    obtain ⟨lE, hE, hRR⟩ := Env.abs (w0 := W) (Below.refl _ _) hlr
    (repeat unfold Loc at hRR)
    refine wp_region_held_drew (S := Env W lE) (by kernel_rfl) (by (first | assumption | exact Env.step (by assumption) (by assumption) | exact Env.old (by assumption) _ | exact Env.drew hE | exact hE | exact Env.drew (by assumption) | exact Env.drew (Env.old (by assumption) _) | ((repeat first | refine Env.far0 ?_ (by assumption) _ | refine Env.far1 ?_ (by assumption) _ | refine Env.farA ?_ (by assumption) _); assumption))) (fun hHeld => ?_)
    refine hTake 0 (by kernel_rfl) (by kernel_rfl) (by kernel_rfl) (by decide) (by assumption) ?_; (intro oi hoi; simp only [List.getElem?_toArray, List.getElem?_cons_zero] at hoi; obtain rfl := Option.some.inj hoi; clear hoi); refine ⟨rfl, ?_⟩; apply Exists.intro; refine ⟨?_, fun _ _ _ h => h, ?_⟩; (intro w hSw; (try dsimp only at hSw); go_simp; (try with_reducible rfl)); (try simp only [Act.put]); refine hTake 1 (by kernel_rfl) (by kernel_rfl) (by kernel_rfl) (by decide) (by assumption) ?_; (intro oi hoi; simp only [List.getElem?_toArray, List.getElem?_cons_succ, List.getElem?_cons_zero] at hoi; obtain rfl := Option.some.inj hoi; clear hoi); refine ⟨rfl, ?_⟩; apply Exists.intro; refine ⟨?_, fun _ _ _ h => h, ?_⟩; (intro w hSw; (try dsimp only at hSw); go_simp; (try with_reducible rfl)); (try simp only [Act.put]); refine hTake 2 (by kernel_rfl) (by kernel_rfl) (by kernel_rfl) (by decide) (by assumption) ?_; (intro oi hoi; simp only [List.getElem?_toArray, List.getElem?_cons_succ, List.getElem?_cons_zero] at hoi; obtain rfl := Option.some.inj hoi; clear hoi); refine ⟨rfl, ?_⟩; apply Exists.intro; refine ⟨?_, fun _ _ _ h => h, ?_⟩; (intro w hSw; (try dsimp only at hSw); go_simp; (try with_reducible rfl)); (try simp only [Act.put]); refine hTake 3 (by kernel_rfl) (by kernel_rfl) (by kernel_rfl) (by decide) (by assumption) ?_; (intro oi hoi; simp only [List.getElem?_toArray, List.getElem?_cons_succ, List.getElem?_cons_zero] at hoi; obtain rfl := Option.some.inj hoi; clear hoi); refine ⟨rfl, ?_⟩; apply Exists.intro; refine ⟨?_, fun _ _ _ h => h, ?_⟩; (intro w hSw; (try dsimp only at hSw); go_simp; (try with_reducible rfl)); (try simp only [Act.put]); refine hTake 4 (by kernel_rfl) (by kernel_rfl) (by kernel_rfl) (by decide) (by assumption) ?_; (intro oi hoi; simp only [List.getElem?_toArray, List.getElem?_cons_succ, List.getElem?_cons_zero] at hoi; obtain rfl := Option.some.inj hoi; clear hoi); refine ⟨rfl, ?_⟩; apply Exists.intro; refine ⟨?_, fun _ _ _ h => h, ?_⟩; (intro w hSw; (try dsimp only at hSw); go_simp; (try with_reducible rfl)); (try simp only [Act.put]); refine hTake 5 (by kernel_rfl) (by kernel_rfl) (by kernel_rfl) (by decide) (by assumption) ?_; (intro oi hoi; simp only [List.getElem?_toArray, List.getElem?_cons_succ, List.getElem?_cons_zero] at hoi; obtain rfl := Option.some.inj hoi; clear hoi); refine ⟨rfl, ?_⟩; apply Exists.intro; refine ⟨?_, fun _ _ _ h => h, ?_⟩; (intro w hSw; (try dsimp only at hSw); go_simp; (try with_reducible rfl)); (try simp only [Act.put]); refine hTake 6 (by kernel_rfl) (by kernel_rfl) (by kernel_rfl) (by decide) (by assumption) ?_; (intro oi hoi; simp only [List.getElem?_toArray, List.getElem?_cons_succ, List.getElem?_cons_zero] at hoi; obtain rfl := Option.some.inj hoi; clear hoi); refine ⟨rfl, ?_⟩; apply Exists.intro; refine ⟨?_, fun _ _ _ h => h, ?_⟩; (intro w hSw; (try dsimp only at hSw); go_simp; (try with_reducible rfl)); (try simp only [Act.put]); refine hTake 7 (by kernel_rfl) (by kernel_rfl) (by kernel_rfl) (by decide) (by assumption) ?_; (intro oi hoi; simp only [List.getElem?_toArray, List.getElem?_cons_succ, List.getElem?_cons_zero] at hoi; obtain rfl := Option.some.inj hoi; clear hoi); refine ⟨rfl, ?_⟩; apply Exists.intro; refine ⟨?_, fun _ _ _ h => h, ?_⟩; (intro w hSw; (try dsimp only at hSw); go_simp; (try with_reducible rfl)); (try simp only [Act.put])
    refine hOnly 8 (by kernel_rfl) (by decide) ?_; (intro oi hoi; simp only [List.getElem?_toArray, List.getElem?_cons_succ, List.getElem?_cons_zero] at hoi; obtain rfl := Option.some.inj hoi; clear hoi); intro K hK; go_simp
    (refine hK.out _ _ (by (first | assumption | exact Env.step (by assumption) (by assumption) | exact Env.old (by assumption) _ | exact Env.drew hE | exact hE | exact Env.drew (by assumption) | exact Env.drew (Env.old (by assumption) _) | ((repeat first | refine Env.far0 ?_ (by assumption) _ | refine Env.far1 ?_ (by assumption) _ | refine Env.farA ?_ (by assumption) _); assumption))) (fun hHeld => ?_); clear hK K; (try simp only [Act.put]))
    refine hOnly 9 (by kernel_rfl) (by decide) ?_; (intro oi hoi; simp only [List.getElem?_toArray, List.getElem?_cons_succ, List.getElem?_cons_zero] at hoi; obtain rfl := Option.some.inj hoi; clear hoi); intro K hK; go_simp
    go_at_call 49
    refine (SA.out _ _ _ _ _ (rd_grown (rd_take2 hrr) (below_new (below_drew (Below.refl _ _)) _)) (rd_lit2 wenc_len W.drew [⟨0, 0, 0, 0, 1⟩, ⟨0, 0, 0, 0, 0⟩] _ _ rfl)).mono ?_
    rintro r w6 ⟨rfl, hb2⟩
    have hEhb2 := Env.step hb2 (by assumption); (try (have hqhb2 := (by with_reducible first | exact Loc.below hb2 (Loc.new (Loc.nil _) _ _) | exact Loc.below hb2 (Loc.drew (Loc.new (Loc.nil _) _ _)) | exact Loc.below hb2 (by assumption : Loc _ [_])); (repeat rw [World.size_drew] at hqhb2); (repeat rw [World.size_alloc] at hqhb2); have hrhb2 := hqhb2; (repeat unfold Loc at hrhb2)))
    (refine hK.out _ _ (by (first | assumption | exact Env.step (by assumption) (by assumption) | exact Env.old (by assumption) _ | exact Env.drew hE | exact hE | exact Env.drew (by assumption) | exact Env.drew (Env.old (by assumption) _) | ((repeat first | refine Env.far0 ?_ (by assumption) _ | refine Env.far1 ?_ (by assumption) _ | refine Env.farA ?_ (by assumption) _); assumption))) (fun hHeld => ?_); clear hK K; (try simp only [Act.put]))
    refine hTake 10 (by kernel_rfl) (by kernel_rfl) (by kernel_rfl) (by decide) (by assumption) ?_; (intro oi hoi; simp only [List.getElem?_toArray, List.getElem?_cons_succ, List.getElem?_cons_zero] at hoi; obtain rfl := Option.some.inj hoi; clear hoi); refine ⟨rfl, ?_⟩; apply Exists.intro; refine ⟨?_, fun _ _ _ h => h, ?_⟩; (intro w hSw; (try dsimp only at hSw); go_simp; (try with_reducible rfl)); (try simp only [Act.put]); refine hTake 11 (by kernel_rfl) (by kernel_rfl) (by kernel_rfl) (by decide) (by assumption) ?_; (intro oi hoi; simp only [List.getElem?_toArray, List.getElem?_cons_succ, List.getElem?_cons_zero] at hoi; obtain rfl := Option.some.inj hoi; clear hoi); refine ⟨rfl, ?_⟩; apply Exists.intro; refine ⟨?_, fun _ _ _ h => h, ?_⟩; (intro w hSw; (try dsimp only at hSw); go_simp; (try with_reducible rfl)); (try simp only [Act.put]); refine hTake 12 (by kernel_rfl) (by kernel_rfl) (by kernel_rfl) (by decide) (by assumption) ?_; (intro oi hoi; simp only [List.getElem?_toArray, List.getElem?_cons_succ, List.getElem?_cons_zero] at hoi; obtain rfl := Option.some.inj hoi; clear hoi); refine ⟨rfl, ?_⟩; apply Exists.intro; refine ⟨?_, fun _ _ _ h => h, ?_⟩; (intro w hSw; (try dsimp only at hSw); go_simp; (try with_reducible rfl)); (try simp only [Act.put]); refine hTake 13 (by kernel_rfl) (by kernel_rfl) (by kernel_rfl) (by decide) (by assumption) ?_; (intro oi hoi; simp only [List.getElem?_toArray, List.getElem?_cons_succ, List.getElem?_cons_zero] at hoi; obtain rfl := Option.some.inj hoi; clear hoi); refine ⟨rfl, ?_⟩; apply Exists.intro; refine ⟨?_, fun _ _ _ h => h, ?_⟩; (intro w hSw; (try dsimp only at hSw); go_simp; (try with_reducible rfl)); (try simp only [Act.put]); refine hTake 14 (by kernel_rfl) (by kernel_rfl) (by kernel_rfl) (by decide) (by assumption) ?_; (intro oi hoi; simp only [List.getElem?_toArray, List.getElem?_cons_succ, List.getElem?_cons_zero] at hoi; obtain rfl := Option.some.inj hoi; clear hoi); refine ⟨rfl, ?_⟩; apply Exists.intro; refine ⟨?_, fun _ _ _ h => h, ?_⟩; (intro w hSw; (try dsimp only at hSw); go_simp; (try with_reducible rfl)); (try simp only [Act.put])
    refine wpAnyH_done (by kernel_rfl) ?_ _
    go_wp2_with fail
    go_meet
    case rel => exact ⟨rfl, rfl, below_then (below_new (below_drew (Below.refl _ _)) _) hb2⟩
  case rest =>
  obtain ⟨rfl, rfl, hbn⟩ := hcut
  replace hl := hl.below hbn
  replace hlx := hlx.below hbn
  replace hly := hly.below hbn
  replace hlr := hlr.below hbn
  replace hlc := hlc.below hbn
  replace hrx := rd_grown hrx hbn
  replace hry := rd_grown hry hbn
  replace hrr := rd_grown hrr hbn
  replace hrc := rd_grown hrc hbn
  replace hr33 := rd_grown hr33 hbn
  replace hr35 := rd_grown hr35 hbn
  replace hb := below_then hb hbn
  clear hbn
  obtain ⟨W, rfl⟩ : ∃ x, x = wc := ⟨_, rfl⟩
  go_upto_region 26 with (fail)
  go_cut [39, 40] from 202 to 219 (fun v8 v9 wx => v8 = .bool false ∧ v9 = .int .i64 0 ∧ Below W.heap.size W wx)
  case first =>
    obtain ⟨lE, hE, hRR⟩ := Env.abs (w0 := W) (Below.refl _ _) hlr
    (repeat unfold Loc at hRR)
    refine wp_region_held_drew (S := Env W lE) (by kernel_rfl) (by (first | assumption | exact Env.step (by assumption) (by assumption) | exact Env.old (by assumption) _ | exact Env.drew hE | exact hE | exact Env.drew (by assumption) | exact Env.drew (Env.old (by assumption) _) | ((repeat first | refine Env.far0 ?_ (by assumption) _ | refine Env.far1 ?_ (by assumption) _ | refine Env.farA ?_ (by assumption) _); assumption))) (fun hHeld => ?_)
    refine hTake 0 (by kernel_rfl) (by kernel_rfl) (by kernel_rfl) (by decide) (by assumption) ?_; (intro oi hoi; simp only [List.getElem?_toArray, List.getElem?_cons_zero] at hoi; obtain rfl := Option.some.inj hoi; clear hoi); refine ⟨rfl, ?_⟩; apply Exists.intro; refine ⟨?_, fun _ _ _ h => h, ?_⟩; (intro w hSw; (try dsimp only at hSw); go_simp; (try with_reducible rfl)); (try simp only [Act.put]); refine hTake 1 (by kernel_rfl) (by kernel_rfl) (by kernel_rfl) (by decide) (by assumption) ?_; (intro oi hoi; simp only [List.getElem?_toArray, List.getElem?_cons_succ, List.getElem?_cons_zero] at hoi; obtain rfl := Option.some.inj hoi; clear hoi); refine ⟨rfl, ?_⟩; apply Exists.intro; refine ⟨?_, fun _ _ _ h => h, ?_⟩; (intro w hSw; (try dsimp only at hSw); go_simp; (try with_reducible rfl)); (try simp only [Act.put]); refine hTake 2 (by kernel_rfl) (by kernel_rfl) (by kernel_rfl) (by decide) (by assumption) ?_; (intro oi hoi; simp only [List.getElem?_toArray, List.getElem?_cons_succ, List.getElem?_cons_zero] at hoi; obtain rfl := Option.some.inj hoi; clear hoi); refine ⟨rfl, ?_⟩; apply Exists.intro; refine ⟨?_, fun _ _ _ h => h, ?_⟩; (intro w hSw; (try dsimp only at hSw); go_simp; (try with_reducible rfl)); (try simp only [Act.put]); refine hTake 3 (by kernel_rfl) (by kernel_rfl) (by kernel_rfl) (by decide) (by assumption) ?_; (intro oi hoi; simp only [List.getElem?_toArray, List.getElem?_cons_succ, List.getElem?_cons_zero] at hoi; obtain rfl := Option.some.inj hoi; clear hoi); refine ⟨rfl, ?_⟩; apply Exists.intro; refine ⟨?_, fun _ _ _ h => h, ?_⟩; (intro w hSw; (try dsimp only at hSw); go_simp; (try with_reducible rfl)); (try simp only [Act.put]); refine hTake 4 (by kernel_rfl) (by kernel_rfl) (by kernel_rfl) (by decide) (by assumption) ?_; (intro oi hoi; simp only [List.getElem?_toArray, List.getElem?_cons_succ, List.getElem?_cons_zero] at hoi; obtain rfl := Option.some.inj hoi; clear hoi); refine ⟨rfl, ?_⟩; apply Exists.intro; refine ⟨?_, fun _ _ _ h => h, ?_⟩; (intro w hSw; (try dsimp only at hSw); go_simp; (try with_reducible rfl)); (try simp only [Act.put]); refine hTake 5 (by kernel_rfl) (by kernel_rfl) (by kernel_rfl) (by decide) (by assumption) ?_; (intro oi hoi; simp only [List.getElem?_toArray, List.getElem?_cons_succ, List.getElem?_cons_zero] at hoi; obtain rfl := Option.some.inj hoi; clear hoi); refine ⟨rfl, ?_⟩; apply Exists.intro; refine ⟨?_, fun _ _ _ h => h, ?_⟩; (intro w hSw; (try dsimp only at hSw); go_simp; (try with_reducible rfl)); (try simp only [Act.put])
    refine hTake 7 (by kernel_rfl) (by kernel_rfl) (by kernel_rfl) (by decide) (by assumption) ?_; (intro oi hoi; simp only [List.getElem?_toArray, List.getElem?_cons_succ, List.getElem?_cons_zero] at hoi; obtain rfl := Option.some.inj hoi; clear hoi); refine ⟨rfl, ?_⟩; apply Exists.intro; refine ⟨?_, fun _ _ _ h => h, ?_⟩; (intro w hSw; (try dsimp only at hSw); go_simp; (try with_reducible rfl)); (try simp only [Act.put]); refine hTake 8 (by kernel_rfl) (by kernel_rfl) (by kernel_rfl) (by decide) (by assumption) ?_; (intro oi hoi; simp only [List.getElem?_toArray, List.getElem?_cons_succ, List.getElem?_cons_zero] at hoi; obtain rfl := Option.some.inj hoi; clear hoi); refine ⟨rfl, ?_⟩; apply Exists.intro; refine ⟨?_, fun _ _ _ h => h, ?_⟩; (intro w hSw; (try dsimp only at hSw); go_simp; (try with_reducible rfl)); (try simp only [Act.put]); refine hTake 9 (by kernel_rfl) (by kernel_rfl) (by kernel_rfl) (by decide) (by assumption) ?_; (intro oi hoi; simp only [List.getElem?_toArray, List.getElem?_cons_succ, List.getElem?_cons_zero] at hoi; obtain rfl := Option.some.inj hoi; clear hoi); refine ⟨rfl, ?_⟩; apply Exists.intro; refine ⟨?_, fun _ _ _ h => h, ?_⟩; (intro w hSw; (try dsimp only at hSw); go_simp; (try with_reducible rfl)); (try simp only [Act.put]); refine hTake 10 (by kernel_rfl) (by kernel_rfl) (by kernel_rfl) (by decide) (by assumption) ?_; (intro oi hoi; simp only [List.getElem?_toArray, List.getElem?_cons_succ, List.getElem?_cons_zero] at hoi; obtain rfl := Option.some.inj hoi; clear hoi); refine ⟨rfl, ?_⟩; apply Exists.intro; refine ⟨?_, fun _ _ _ h => h, ?_⟩; (intro w hSw; (try dsimp only at hSw); go_simp; (try with_reducible rfl)); (try simp only [Act.put]); refine hTake 11 (by kernel_rfl) (by kernel_rfl) (by kernel_rfl) (by decide) (by assumption) ?_; (intro oi hoi; simp only [List.getElem?_toArray, List.getElem?_cons_succ, List.getElem?_cons_zero] at hoi; obtain rfl := Option.some.inj hoi; clear hoi); refine ⟨rfl, ?_⟩; apply Exists.intro; refine ⟨?_, fun _ _ _ h => h, ?_⟩; (intro w hSw; (try dsimp only at hSw); go_simp; (try with_reducible rfl)); (try simp only [Act.put]); refine hTake 12 (by kernel_rfl) (by kernel_rfl) (by kernel_rfl) (by decide) (by assumption) ?_; (intro oi hoi; simp only [List.getElem?_toArray, List.getElem?_cons_succ, List.getElem?_cons_zero] at hoi; obtain rfl := Option.some.inj hoi; clear hoi); refine ⟨rfl, ?_⟩; apply Exists.intro; refine ⟨?_, fun _ _ _ h => h, ?_⟩; (intro w hSw; (try dsimp only at hSw); go_simp; (try with_reducible rfl)); (try simp only [Act.put])
    refine wpAnyH_ready (rs := [6, 13]) (by kernel_rfl) (by simp) ?_
    refine hCons 6 (by decide) ?_ (hCons 13 (by decide) ?_ AllReadyH.nil)
    · (intro oi hoi; simp only [List.getElem?_toArray, List.getElem?_cons_succ, List.getElem?_cons_zero] at hoi; obtain rfl := Option.some.inj hoi; clear hoi); intro K hK
      go_simp
      (refine hK.out _ _ (by (first | assumption | exact Env.step (by assumption) (by assumption) | exact Env.old (by assumption) _ | exact Env.drew hE | exact hE | exact Env.drew (by assumption) | exact Env.drew (Env.old (by assumption) _) | ((repeat first | refine Env.far0 ?_ (by assumption) _ | refine Env.far1 ?_ (by assumption) _ | refine Env.farA ?_ (by assumption) _); assumption))) (fun hHeld => ?_); clear hK K; (try simp only [Act.put]))
      refine hOnly 13 (by kernel_rfl) (by decide) ?_; (intro oi hoi; simp only [List.getElem?_toArray, List.getElem?_cons_succ, List.getElem?_cons_zero] at hoi; obtain rfl := Option.some.inj hoi; clear hoi); intro K hK; go_simp
      (refine hK.out _ _ (by (first | assumption | exact Env.step (by assumption) (by assumption) | exact Env.old (by assumption) _ | exact Env.drew hE | exact hE | exact Env.drew (by assumption) | exact Env.drew (Env.old (by assumption) _) | ((repeat first | refine Env.far0 ?_ (by assumption) _ | refine Env.far1 ?_ (by assumption) _ | refine Env.farA ?_ (by assumption) _); assumption))) (fun hHeld => ?_); clear hK K; (try simp only [Act.put]))
      refine hOnly 14 (by kernel_rfl) (by decide) ?_; (intro oi hoi; simp only [List.getElem?_toArray, List.getElem?_cons_succ, List.getElem?_cons_zero] at hoi; obtain rfl := Option.some.inj hoi; clear hoi); intro K hK; go_simp
      go_at_call 49
      have ho2 := rd_lit2 wenc_len (W.alloc (.cells #[.int .i64 0, .int .i64 0, .int .i64 0, .int .i64 0, .int .i64 0, .int .i64 0, .int .i64 0, .int .i64 0, .int .i64 0, .int .i64 0] 72)) [⟨0, 0, 0, 0, 0⟩, ⟨0, 0, 0, 0, 1⟩] 72 #[.int .i64 0, .int .i64 0, .int .i64 0, .int .i64 0, .int .i64 0, .int .i64 0, .int .i64 0, .int .i64 0, .int .i64 0, .int .i64 1] rfl
      rw [World.size_alloc W (.cells #[.int .i64 0, .int .i64 0, .int .i64 0, .int .i64 0, .int .i64 0, .int .i64 0, .int .i64 0, .int .i64 0, .int .i64 0, .int .i64 0] 72)] at ho2
      refine (SB.out _ _ _ _ _ (Rd.drew (rd_grown (rd_lit2 wenc_len W [⟨0, 0, 0, 0, 0⟩, ⟨0, 0, 0, 0, 0⟩] 72 #[.int .i64 0, .int .i64 0, .int .i64 0, .int .i64 0, .int .i64 0, .int .i64 0, .int .i64 0, .int .i64 0, .int .i64 0, .int .i64 0] rfl) (below_new (Below.refl _ _) (.cells #[.int .i64 0, .int .i64 0, .int .i64 0, .int .i64 0, .int .i64 0, .int .i64 0, .int .i64 0, .int .i64 0, .int .i64 0, .int .i64 1] 72)))) (Rd.drew ho2)).mono ?_
      rintro r w6 ⟨rfl, hb2⟩
      have hEhb2 := Env.step hb2 (by assumption); (try (have hqhb2 := (by with_reducible first | exact Loc.below hb2 (Loc.new (Loc.nil _) _ _) | exact Loc.below hb2 (Loc.drew (Loc.new (Loc.nil _) _ _)) | exact Loc.below hb2 (by assumption : Loc _ [_])); (repeat rw [World.size_drew] at hqhb2); (repeat rw [World.size_alloc] at hqhb2); have hrhb2 := hqhb2; (repeat unfold Loc at hrhb2)))
      (refine hK.out _ _ (by (first | assumption | exact Env.step (by assumption) (by assumption) | exact Env.old (by assumption) _ | exact Env.drew hE | exact hE | exact Env.drew (by assumption) | exact Env.drew (Env.old (by assumption) _) | ((repeat first | refine Env.far0 ?_ (by assumption) _ | refine Env.far1 ?_ (by assumption) _ | refine Env.farA ?_ (by assumption) _); assumption))) (fun hHeld => ?_); clear hK K; (try simp only [Act.put]))
      refine hTake 15 (by kernel_rfl) (by kernel_rfl) (by kernel_rfl) (by decide) (by assumption) ?_; (intro oi hoi; simp only [List.getElem?_toArray, List.getElem?_cons_succ, List.getElem?_cons_zero] at hoi; obtain rfl := Option.some.inj hoi; clear hoi); refine ⟨rfl, ?_⟩; apply Exists.intro; refine ⟨?_, fun _ _ _ h => h, ?_⟩; (intro w hSw; (try dsimp only at hSw); go_simp; (try with_reducible rfl)); (try simp only [Act.put]); refine hTake 16 (by kernel_rfl) (by kernel_rfl) (by kernel_rfl) (by decide) (by assumption) ?_; (intro oi hoi; simp only [List.getElem?_toArray, List.getElem?_cons_succ, List.getElem?_cons_zero] at hoi; obtain rfl := Option.some.inj hoi; clear hoi); refine ⟨rfl, ?_⟩; apply Exists.intro; refine ⟨?_, fun _ _ _ h => h, ?_⟩; (intro w hSw; (try dsimp only at hSw); go_simp; (try with_reducible rfl)); (try simp only [Act.put]); refine hTake 17 (by kernel_rfl) (by kernel_rfl) (by kernel_rfl) (by decide) (by assumption) ?_; (intro oi hoi; simp only [List.getElem?_toArray, List.getElem?_cons_succ, List.getElem?_cons_zero] at hoi; obtain rfl := Option.some.inj hoi; clear hoi); refine ⟨rfl, ?_⟩; apply Exists.intro; refine ⟨?_, fun _ _ _ h => h, ?_⟩; (intro w hSw; (try dsimp only at hSw); go_simp; (try with_reducible rfl)); (try simp only [Act.put]); refine hTake 18 (by kernel_rfl) (by kernel_rfl) (by kernel_rfl) (by decide) (by assumption) ?_; (intro oi hoi; simp only [List.getElem?_toArray, List.getElem?_cons_succ, List.getElem?_cons_zero] at hoi; obtain rfl := Option.some.inj hoi; clear hoi); refine ⟨rfl, ?_⟩; apply Exists.intro; refine ⟨?_, fun _ _ _ h => h, ?_⟩; (intro w hSw; (try dsimp only at hSw); go_simp; (try with_reducible rfl)); (try simp only [Act.put]); refine hTake 19 (by kernel_rfl) (by kernel_rfl) (by kernel_rfl) (by decide) (by assumption) ?_; (intro oi hoi; simp only [List.getElem?_toArray, List.getElem?_cons_succ, List.getElem?_cons_zero] at hoi; obtain rfl := Option.some.inj hoi; clear hoi); refine ⟨rfl, ?_⟩; apply Exists.intro; refine ⟨?_, fun _ _ _ h => h, ?_⟩; (intro w hSw; (try dsimp only at hSw); go_simp; (try with_reducible rfl)); (try simp only [Act.put])
      refine wpAnyH_done (by kernel_rfl) ?_ _
      go_wp2_with fail
      go_meet
      case rel => exact ⟨rfl, rfl, (below_new (below_new (below_drew (Below.refl _ _)) _) _).trans (hb2.mono (by rw [World.size_drew, World.size_alloc, World.size_alloc]; omega))⟩
    · (intro oi hoi; simp only [List.getElem?_toArray, List.getElem?_cons_succ, List.getElem?_cons_zero] at hoi; obtain rfl := Option.some.inj hoi; clear hoi); intro K hK
      go_simp
      (refine hK.out _ _ (by (first | assumption | exact Env.step (by assumption) (by assumption) | exact Env.old (by assumption) _ | exact Env.drew hE | exact hE | exact Env.drew (by assumption) | exact Env.drew (Env.old (by assumption) _) | ((repeat first | refine Env.far0 ?_ (by assumption) _ | refine Env.far1 ?_ (by assumption) _ | refine Env.farA ?_ (by assumption) _); assumption))) (fun hHeld => ?_); clear hK K; (try simp only [Act.put]))
      refine hOnly 6 (by kernel_rfl) (by decide) ?_; (intro oi hoi; simp only [List.getElem?_toArray, List.getElem?_cons_succ, List.getElem?_cons_zero] at hoi; obtain rfl := Option.some.inj hoi; clear hoi); intro K hK; go_simp
      (refine hK.out _ _ (by (first | assumption | exact Env.step (by assumption) (by assumption) | exact Env.old (by assumption) _ | exact Env.drew hE | exact hE | exact Env.drew (by assumption) | exact Env.drew (Env.old (by assumption) _) | ((repeat first | refine Env.far0 ?_ (by assumption) _ | refine Env.far1 ?_ (by assumption) _ | refine Env.farA ?_ (by assumption) _); assumption))) (fun hHeld => ?_); clear hK K; (try simp only [Act.put]))
      refine hOnly 14 (by kernel_rfl) (by decide) ?_; (intro oi hoi; simp only [List.getElem?_toArray, List.getElem?_cons_succ, List.getElem?_cons_zero] at hoi; obtain rfl := Option.some.inj hoi; clear hoi); intro K hK; go_simp
      go_at_call 49
      have ho2 := rd_lit2 wenc_len (W.alloc (.cells #[.int .i64 0, .int .i64 0, .int .i64 0, .int .i64 0, .int .i64 0, .int .i64 0, .int .i64 0, .int .i64 0, .int .i64 0, .int .i64 1] 72)) [⟨0, 0, 0, 0, 0⟩, ⟨0, 0, 0, 0, 0⟩] 72 #[.int .i64 0, .int .i64 0, .int .i64 0, .int .i64 0, .int .i64 0, .int .i64 0, .int .i64 0, .int .i64 0, .int .i64 0, .int .i64 0] rfl
      rw [World.size_alloc W (.cells #[.int .i64 0, .int .i64 0, .int .i64 0, .int .i64 0, .int .i64 0, .int .i64 0, .int .i64 0, .int .i64 0, .int .i64 0, .int .i64 1] 72)] at ho2
      refine (SB.out _ _ _ _ _ (Rd.drew ho2) (Rd.drew (rd_grown (rd_lit2 wenc_len W [⟨0, 0, 0, 0, 0⟩, ⟨0, 0, 0, 0, 1⟩] 72 #[.int .i64 0, .int .i64 0, .int .i64 0, .int .i64 0, .int .i64 0, .int .i64 0, .int .i64 0, .int .i64 0, .int .i64 0, .int .i64 1] rfl) (below_new (Below.refl _ _) (.cells #[.int .i64 0, .int .i64 0, .int .i64 0, .int .i64 0, .int .i64 0, .int .i64 0, .int .i64 0, .int .i64 0, .int .i64 0, .int .i64 0] 72))))).mono ?_
      rintro r w6 ⟨rfl, hb2⟩
      have hEhb2 := Env.step hb2 (by assumption); (try (have hqhb2 := (by with_reducible first | exact Loc.below hb2 (Loc.new (Loc.nil _) _ _) | exact Loc.below hb2 (Loc.drew (Loc.new (Loc.nil _) _ _)) | exact Loc.below hb2 (by assumption : Loc _ [_])); (repeat rw [World.size_drew] at hqhb2); (repeat rw [World.size_alloc] at hqhb2); have hrhb2 := hqhb2; (repeat unfold Loc at hrhb2)))
      (refine hK.out _ _ (by (first | assumption | exact Env.step (by assumption) (by assumption) | exact Env.old (by assumption) _ | exact Env.drew hE | exact hE | exact Env.drew (by assumption) | exact Env.drew (Env.old (by assumption) _) | ((repeat first | refine Env.far0 ?_ (by assumption) _ | refine Env.far1 ?_ (by assumption) _ | refine Env.farA ?_ (by assumption) _); assumption))) (fun hHeld => ?_); clear hK K; (try simp only [Act.put]))
      refine hTake 15 (by kernel_rfl) (by kernel_rfl) (by kernel_rfl) (by decide) (by assumption) ?_; (intro oi hoi; simp only [List.getElem?_toArray, List.getElem?_cons_succ, List.getElem?_cons_zero] at hoi; obtain rfl := Option.some.inj hoi; clear hoi); refine ⟨rfl, ?_⟩; apply Exists.intro; refine ⟨?_, fun _ _ _ h => h, ?_⟩; (intro w hSw; (try dsimp only at hSw); go_simp; (try with_reducible rfl)); (try simp only [Act.put]); refine hTake 16 (by kernel_rfl) (by kernel_rfl) (by kernel_rfl) (by decide) (by assumption) ?_; (intro oi hoi; simp only [List.getElem?_toArray, List.getElem?_cons_succ, List.getElem?_cons_zero] at hoi; obtain rfl := Option.some.inj hoi; clear hoi); refine ⟨rfl, ?_⟩; apply Exists.intro; refine ⟨?_, fun _ _ _ h => h, ?_⟩; (intro w hSw; (try dsimp only at hSw); go_simp; (try with_reducible rfl)); (try simp only [Act.put]); refine hTake 17 (by kernel_rfl) (by kernel_rfl) (by kernel_rfl) (by decide) (by assumption) ?_; (intro oi hoi; simp only [List.getElem?_toArray, List.getElem?_cons_succ, List.getElem?_cons_zero] at hoi; obtain rfl := Option.some.inj hoi; clear hoi); refine ⟨rfl, ?_⟩; apply Exists.intro; refine ⟨?_, fun _ _ _ h => h, ?_⟩; (intro w hSw; (try dsimp only at hSw); go_simp; (try with_reducible rfl)); (try simp only [Act.put]); refine hTake 18 (by kernel_rfl) (by kernel_rfl) (by kernel_rfl) (by decide) (by assumption) ?_; (intro oi hoi; simp only [List.getElem?_toArray, List.getElem?_cons_succ, List.getElem?_cons_zero] at hoi; obtain rfl := Option.some.inj hoi; clear hoi); refine ⟨rfl, ?_⟩; apply Exists.intro; refine ⟨?_, fun _ _ _ h => h, ?_⟩; (intro w hSw; (try dsimp only at hSw); go_simp; (try with_reducible rfl)); (try simp only [Act.put]); refine hTake 19 (by kernel_rfl) (by kernel_rfl) (by kernel_rfl) (by decide) (by assumption) ?_; (intro oi hoi; simp only [List.getElem?_toArray, List.getElem?_cons_succ, List.getElem?_cons_zero] at hoi; obtain rfl := Option.some.inj hoi; clear hoi); refine ⟨rfl, ?_⟩; apply Exists.intro; refine ⟨?_, fun _ _ _ h => h, ?_⟩; (intro w hSw; (try dsimp only at hSw); go_simp; (try with_reducible rfl)); (try simp only [Act.put])
      refine wpAnyH_done (by kernel_rfl) ?_ _
      go_wp2_with fail
      go_meet
      case rel => exact ⟨rfl, rfl, (below_new (below_new (below_drew (Below.refl _ _)) _) _).trans (hb2.mono (by rw [World.size_drew, World.size_alloc, World.size_alloc]; omega))⟩
  case rest =>
  obtain ⟨rfl, rfl, hbn⟩ := hcut
  replace hl := hl.below hbn
  replace hlx := hlx.below hbn
  replace hly := hly.below hbn
  replace hlr := hlr.below hbn
  replace hlc := hlc.below hbn
  replace hrx := rd_grown hrx hbn
  replace hry := rd_grown hry hbn
  replace hrr := rd_grown hrr hbn
  replace hrc := rd_grown hrc hbn
  replace hr33 := rd_grown hr33 hbn
  replace hr35 := rd_grown hr35 hbn
  replace hb := below_then hb hbn
  clear hbn
  obtain ⟨W, rfl⟩ : ∃ x, x = wc := ⟨_, rfl⟩
  go_upto_region 27 with (fail)
  have hall := loc_cat hlr (loc_cat hlx hly)
  simp only [List.cons_append, List.nil_append] at hall
  refine sn26 (cx := cx) (cy := cy) (pr := pr) (A29 := A29) (A33 := A33) (A35 := A35) (c29 := c29) (c33 := c33) (c35 := c35) _ rfl ⟨rfl, rfl, rfl, rfl, rfl, rfl, rfl, rfl, rfl, rfl, rfl, rfl, rfl, rfl, rfl, rfl, rfl, rfl, rfl, rfl, rfl, rfl, rfl, rfl, rfl, rfl⟩ hall hrx hry hr33 hrr hr35 hrc (fun c a w d v h => by cases d <;> exact h) ?_
  intro T w26 hb26 h0 h0g
  go_wp2_with fail
  go_ret
  exact ⟨by show Ending.returned (T.getD 0 undef) = _; rw [h0], below_then hb hb26⟩
end Go.Proofs.Ytffehibdeogjeaa
