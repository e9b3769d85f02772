/- Lemmas and contracts for the statement, joined into one text: StoreMeet, StoreBoth, StoreFire, StoreWith, StoreSorted. The conditions of each stand at its head. -/
import Derived.Test.YtnljihjhmgpcoaaGreatJ13
import Derived.BigRegion
import Derived.Test.YtnljihjhmgpcoaaGreatJ1
import Derived.Test.YtnljihjhmgpcoaaGreatJ6
import Derived.Test.YtnljihjhmgpcoaaGreatJ8
namespace Go.Proofs.YtnljihjhmgpcoaaGreat
open Go.RowKit
theorem Meets.trans {h : En → En → Bool} {l l1 l2 : List En} {x x1 x2 : En} (h1 : Meets h l x l1 x1) (h2 : Meets h l1 x1 l2 x2) : Meets h l x l2 x2 := by
 induction h1 with
 | done _ _ => exact h2
 | step hh _ ih => exact .step hh (ih h2)
theorem foldJ_mono {x : En} (hx : enw x) : ∀ {ys : List En}, (∀ y ∈ ys, enw y) → x.c1 ≤ (ys.foldl enJ x).c1 ∧ x.c2 ≤ (ys.foldl enJ x).c2 := by
 intro ys
 induction ys generalizing x with
 | nil => intro _; exact ⟨Int.le_refl _, Int.le_refl _⟩
 | cons y ys ih =>
  intro h
  have hy := h y (by simp)
  have h1 := ih (enw_J hx hy) (fun z hz => h z (by simp [hz]))
  have e1 : (enJ x y).c1 = (aboth x.a y.a).c := rfl
  have e2 : (enJ x y).c2 = (aboth x.b y.b).c := rfl
  rw [e1, e2, both_c hx.2.1 hy.2.1, both_c hx.2.2 hy.2.2] at h1
  have g1 := hy.2.1.1
  have g2 := hy.2.2.1
  simp only [List.foldl_cons]
  have e3 : x.a.c = x.c1 := rfl
  have e4 : x.b.c = x.c2 := rfl
  omega
theorem absorb_eq {sess : Bool} {l l1 : List En} {x x1 : En} (hx : enw x) (hl : ∀ y ∈ l, enw y) (hm : Meets (hitE sess) l x l1 x1) (he : ∀ y ∈ l1, hitE sess x1 y = false) : absorb (hitE sess) l.length l x = (l1, x1) := by
 obtain ⟨h1, h2, h3⟩ := meets_unique hx hl (List.Perm.refl l) (absorb_meets (hitE sess) l.length l x) (absorb_ended (hitE sess) l.length l x (Nat.le_refl _)) hm he
 exact Prod.ext (h3 rfl) h1
/-- Where too many values are taken in, too many are in the end. -/
theorem absorb_many {sess : Bool} {l l1 : List En} {x x1 : En} (hx : enw x) (hl : ∀ y ∈ l, enw y) (hm : Meets (hitE sess) l x l1 x1) (hf : fitE x1 = false) : fitE (absorb (hitE sess) l.length l x).2 = false := by
 obtain ⟨ys0, h1, h2, h3, _, _⟩ := hm.facts
 have hx1 : enw x1 := by rw [h3]; exact foldJ_w hx (fun y hy => hl y (h1.mem_iff.2 (List.mem_append_left _ hy)))
 have hl1 : ∀ y ∈ l1, enw y := fun y hy => hl y (h1.mem_iff.2 (List.mem_append_right _ hy))
 have h4 := absorb_meets (hitE sess) l1.length l1 x1
 rw [absorb_eq hx hl (hm.trans h4) (absorb_ended (hitE sess) l1.length l1 x1 (Nat.le_refl _))]
 obtain ⟨ys, g1, _, g3, _, _⟩ := h4.facts
 have := foldJ_mono hx1 (ys := ys) (fun y hy => hl1 y (g1.mem_iff.2 (List.mem_append_left _ hy)))
 rw [← g3] at this
 unfold fitE at *
 simp only [decide_eq_false_iff_not] at *
 omega
theorem grown_above {w W W' : World} {ob : Option Nat} {g : Nat} (h : w.grownBy W ob) (h2 : W.grownBy W' (some g)) (hg : w.heap.size ≤ g) : w.grownBy W' ob :=
 ⟨h2.os.trans h.os, h2.tape.trans h.tape, h2.output.trans h.output, Nat.le_trans h.size h2.size, fun k hk hne => (h2.block k (Nat.lt_of_lt_of_le hk h.size) (by simp; omega)).trans (h.block k hk hne)⟩
theorem own_box {w : World} {base : Nat} {e : TypeId} {g n cap : Nat} {x : En} (h : Own enenc 11 w base e (.slice (some ⟨g, 0, none⟩) n cap) [x]) :
  g < w.heap.size ∧ (∀ o, w.frozen? ⟨g, o, none⟩ = false) ∧ w.cell? ⟨g, 0, none⟩ = some (.int .i64 x.k) ∧ w.cell? ⟨g, 1, none⟩ = some (.int .i64 x.s) ∧ w.cell? ⟨g, 2, none⟩ = some (.int .i64 x.e) ∧ w.cell? ⟨g, 3, none⟩ = some (.int .i64 x.c1) ∧ w.cell? ⟨g, 4, none⟩ = some (.int .i64 x.s1) ∧ w.cell? ⟨g, 5, none⟩ = some (.int .i64 x.m1) ∧ w.cell? ⟨g, 6, none⟩ = some (.int .i64 x.x1) ∧ w.cell? ⟨g, 7, none⟩ = some (.int .i64 x.c2) ∧ w.cell? ⟨g, 8, none⟩ = some (.int .i64 x.s2) ∧ w.cell? ⟨g, 9, none⟩ = some (.int .i64 x.m2) ∧ w.cell? ⟨g, 10, none⟩ = some (.int .i64 x.x2) := by
 obtain ⟨h0, c0, c1, c2, c3, c4, c5, c6, c7, c8, c9, c10⟩ := own_en h (k := 0) rfl
 simp only [Nat.zero_mul, Nat.zero_add] at c0 c1 c2 c3 c4 c5 c6 c7 c8 c9 c10
 exact ⟨h0, own_free h, c0, c1, c2, c3, c4, c5, c6, c7, c8, c9, c10⟩
theorem box_new (w : World) (x : En) : Own enenc 11 (w.alloc (.cells (enenc x).toArray 62)) w.heap.size 62 (.slice (some ⟨w.heap.size, 0, none⟩) 1 1) [x] := by
 have := Own.made (enc := enenc) (sz := 11) enenc_len w w.heap.size 62 [x] w.heap.size rfl (Nat.le_refl _) (by simp [maxLen])
 simpa using this
/-- An entry that is right for a store. -/
def enR (y : En) : Prop := y.s < y.e ∧ y.a.ok ∧ y.b.ok
theorem enR_w {y : En} (h : enR y) : enw y := ⟨h.1, wk_ok h.2.1, wk_ok h.2.2⟩
theorem fit_parts {x y : En} (hx : enR x) (hy : enR y) (h : fitE (enJ x y) = true) : enR (enJ x y) := by
 have e1 : (enJ x y).c1 = (aboth x.a y.a).c := rfl
 have e2 : (enJ x y).c2 = (aboth x.b y.b).c := rfl
 unfold fitE at h
 simp only [decide_eq_true_eq] at h
 rw [e1, e2, both_c (wk_ok hx.2.1) (wk_ok hy.2.1), both_c (wk_ok hx.2.2) (wk_ok hy.2.2)] at h
 exact ⟨(enw_J (enR_w hx) (enR_w hy)).1, both_ok hx.2.1 hy.2.1 h.1, both_ok hx.2.2 hy.2.2 h.2⟩
/-- What meet leaves. -/
def MeetP (base : Nat) (ob : Option Nat) (l : List En) (x : En) (w : World) (r : Ending) (w' : World) : Prop :=
 ∃ (v' : Value) (err : Int), r = .returned (.tuple #[v', .int .i64 err]) ∧ w.grownBy w' ob ∧
  (err = 0 ∧ Own enenc 11 w' base 62 v' (putE true l x).1 ∧ (putE true l x).2 = true ∧ (v'.ownBlock = ob ∨ ∀ k, v'.ownBlock = some k → w.heap.size ≤ k) ∨ err = 4 ∧ (putE true l x).2 = false)
set_option maxHeartbeats 4000000 in
set_option maxRecDepth 100000 in
theorem meet_any (v : Value) (base n : Nat) (l : List En) (x : En) (w : World) (hn : l.length = n) (hb0 : n ≤ 1099511627775) (hown : Own enenc 11 w base 62 v l) (hbase : base ≤ w.heap.size) (hs : SS l)
  (hok : ∀ y ∈ l, enR y) (hx : enR x) (hfx : fitE x = true) :
  Calls Tryz.prog 56 #[v, .agg #[.int .i64 x.k, .int .i64 x.s, .int .i64 x.e, .int .i64 x.c1, .int .i64 x.s1, .int .i64 x.m1, .int .i64 x.x1, .int .i64 x.c2, .int .i64 x.s2, .int .i64 x.m2, .int .i64 x.x2]] w (MeetP base v.ownBlock l x w) := by
 obtain ⟨ob, hob⟩ : ∃ ob, ob = v.ownBlock := ⟨_, rfl⟩
 rw [← hob]
 obtain ⟨A, c, rfl, hnc, hz⟩ := own_shape_z hown hn
 have hlt := fun k hk => World.ownsRow.lt hown k hk
 have HOB : Hid (∀ m : Nat, (Value.slice A m c).ownBlock = ob) := Lib.hid (fun m => by rw [hob]; cases A <;> rfl)
 have HLT := Lib.hid hlt; have HOK := Lib.hid hok; have HX := Lib.hid hx
 have hbox := box_new w x
 have hownA := hown.alloc (.cells (enenc x).toArray 62)
 clear hob hlt hz hok hx
 go_enter Tryz.func56, Tryz.ntmps56
 go_wp2_with fail
 go_loopw [0] (fun u wr => ∃ (m : Nat) (l' : List En) (x' : En), u = .slice A m c ∧ l'.length = m ∧ m ≤ n ∧ Own enenc 11 wr base 62 u l' ∧ Own enenc 11 wr w.heap.size 62 (.slice (some ⟨w.heap.size, 0, none⟩) 1 1) [x'] ∧ SS l' ∧ Meets (hitE true) l x l' x' ∧ enR x' ∧ fitE x' = true ∧ w.grownBy wr ob) (fun u _ => lenV u)
 case atStart => exact ⟨n, l, x, rfl, hn, Nat.le_refl _, hownA, hbox, hs, .done _ _, HX.out, hfx, World.grownBy_alloc w _ _⟩
 case round =>
  obtain ⟨m, l', x', rfl, hm, hmn, ho, hbx, hs', hme, hx', hfx', hgr⟩ := hrel
  obtain ⟨hgb, hbf, c0, c1, c2, c3, c4, c5, c6, c7, c8, c9, c10⟩ := own_box hbx
  have hok' : ∀ y ∈ l', enR y := fun y hy => by
   obtain ⟨ys, h1, _⟩ := hme.facts
   exact HOK.out y (h1.mem_iff.2 (List.mem_append_right _ hy))
  have hidx := index_any A c m w.heap.size l' x' wr hm (by omega) (Own.rd enenc_len ho) hgb c0 c1 c2
  have HM := Lib.hid hm; have HS' := Lib.hid hs'; have HME := Lib.hid hme; have HX' := Lib.hid hx'; have HFX := Lib.hid hfx'; have HOK' := Lib.hid hok'
  clear hm hs' hme hx' hfx' hok' hbox hownA hown
  cases hfi : l'.findIdx? (hitM x') with
  | none =>
   have hix : idxM l' x' = -1 := by unfold idxM; rw [hfi]
   rw [hix] at hidx
   have HI := Lib.hid hidx
   have hnone : ∀ y ∈ l', hitE true x' y = false := fun y hy => by
    rw [← hitM_hit HX'.out.1 (HOK'.out y hy).1]
    have := List.findIdx?_eq_none_iff.1 hfi y hy
    simpa using this
   have HNO := Lib.hid hnone
   clear hfi hix hidx hnone
   go_wp2_with fail
   go_at_call 91
   refine HI.out.mono ?_
   rintro r w1 ⟨rfl, hb1⟩
   have ho1 := ho.below hb1
   have hbx1 := hbx.below hb1
   obtain ⟨hgb1, hbf1, q0, q1, q2, q3, q4, q5, q6, q7, q8, q9, q10⟩ := own_box hbx1
   go_wp2_with fail
   go_at_call 57
   refine (put_any (.slice A m c) base m l' x' w1 HM.out (by omega) ho1 (by have := hb1.size; have := hgr.size; omega) HS'.out (fun y hy => HOK'.out y hy) HX'.out HFX.out).mono ?_
   rintro r w2 ⟨v2, err, l2, rfl, own2, hg2, hf2, hres⟩
   rw [HOB.out] at hg2 hf2
   have hsz := Nat.le_trans hgr.size hb1.size
   have HG := Lib.hid (grown_trans (grown_trans hgr (grown_of_below hb1 ob)) hg2)
   have hpf : putE false l' x' = putE true l x := by
    unfold putE
    rw [absorb_eq (enR_w HX.out) (fun y hy => enR_w (HOK.out y hy)) HME.out HNO.out, absorb_none (fun y hy => by
     have h1 := HNO.out y hy
     cases hc : hitE false x' y with
     | false => rfl
     | true =>
      unfold hitE at h1 hc
      simp at h1 hc
      have := h1 hc.1
      omega)]
   rw [hpf] at hres
   have HRES := Lib.hid hres; have HF2 : Hid (v2.ownBlock = ob ∨ ∀ k, v2.ownBlock = some k → w.heap.size ≤ k) := Lib.hid (hf2.imp_right fun h k hk => Nat.le_trans hsz (h k hk))
   clear hres hf2 hg2 hpf
   go_wp2
   go_ret2
   refine ⟨v2, err, rfl, HG.out, ?_⟩
   rcases HRES.out with ⟨h1, h2, h3⟩ | ⟨h1, h2⟩
   ·exact .inl ⟨h1, by rw [← h2]; exact own2, h3, HF2.out⟩
   ·exact .inr ⟨h1, h2⟩
  | some i =>
   obtain ⟨him0, hiy, -⟩ := List.findIdx?_eq_some_iff_getElem.1 hfi
   obtain ⟨y, hy⟩ : ∃ y, l'[i]? = some y := ⟨_, List.getElem?_eq_getElem him0⟩
   have hyi : l'[i] = y := (List.getElem?_eq_some_iff.1 hy).2
   rw [hyi] at hiy
   have hix : idxM l' x' = i := by unfold idxM; rw [hfi]
   rw [hix] at hidx
   have him : i < m := by rw [HM.out] at him0; exact him0
   obtain ⟨g, rfl⟩ : ∃ g, A = some ⟨g, 0, none⟩ := by
    obtain ⟨b', off', e', -, -⟩ := (Own.rd enenc_len ho) (by rintro rfl; simp at hy)
    obtain ⟨A', c', hv, -, -, hA⟩ := ho.form
    injection hv with hv1
    subst hv1
    obtain ⟨g, hg, -⟩ := hA _ e'
    exact ⟨g, by rw [e', hg]⟩
   have hob2 : some g = ob := HOB.out 0
   subst hob2
   have hgw := (HLT.out g rfl).2
   have hyR := HOK'.out y (List.mem_of_getElem? hy)
   have hhit : hitE true x' y = true := by rw [← hitM_hit HX'.out.1 hyR.1]; exact hiy
   obtain ⟨e1, e2⟩ := split_at hy
   have hme2 : Meets (hitE true) l x (l'.eraseIdx i) (enJ x' y) := by rw [e2]; exact HME.out.snoc e1 hhit
   have HME2 := Lib.hid hme2; have HY := Lib.hid hy; have HYR := Lib.hid hyR; have HI := Lib.hid hidx
   clear hfi hiy hyi hix hidx hme2 hy hyR hhit e1 e2 him0
   have q1 : (0 : Int) ≤ (i : Int) := by omega
   have q2 : (i : Int) < (m : Int) := by omega
   have ei : IntKind.i64.wrap ((i : Int) + 1) = (i : Int) + 1 := IntWalk.i64_in _ (by omega)
   go_wp2_with fail
   go_at_call 91
   refine HI.out.mono ?_
   rintro r w1 ⟨rfl, hb1⟩
   have ho1 := ho.below hb1
   have hbx1 := hbx.below hb1
   obtain ⟨hgb1, hbf1, b0, b1, b2, b3, b4, b5, b6, b7, b8, b9, b10⟩ := own_box hbx1
   obtain ⟨hg1, r0, r1, r2, r3, r4, r5, r6, r7, r8, r9, r10⟩ := own_en ho1 HY.out
   have hsz := Nat.le_trans hgr.size hb1.size
   clear c0 c1 c2 c3 c4 c5 c6 c7 c8 c9 c10
   go_wp2_with fail
   go_at_call 93
   refine (merge_any w.heap.size 1 1 w.heap.size 0 62 [x'] x' y.a y.b w1 rfl hbx1 HYR.out.2.1 HYR.out.2.2 HX'.out.2.1 HX'.out.2.2).mono ?_
   rintro r w2 ⟨err, x2, rfl, hbx2, hg2, hres⟩
   have ho2 := ho1.grown hg2 (.inr (fun e => by have e' : some g = some w.heap.size := e; injection e' with e'; omega))
   have HG := Lib.hid (grown_above (grown_trans hgr (grown_of_below hb1 (some g))) hg2 (Nat.le_refl _))
   have hsz2 := Nat.le_trans hsz hg2.size
   clear b0 b1 b2 b3 b4 b5 b6 b7 b8 b9 b10 r0 r1 r2 r3 r4 r5 r6 r7 r8 r9 r10 hg2
   rcases hres with ⟨rfl, rfl, hfit⟩ | ⟨rfl, hfit⟩
   ·obtain ⟨X2, hX2⟩ : ∃ X2, X2 = mrg x' y.a y.b := ⟨_, rfl⟩
    rw [← hX2] at hbx2
    change Own enenc 11 w2 w.heap.size 62 (.slice (some ⟨w.heap.size, 0, none⟩) 1 1) [X2] at hbx2
    obtain ⟨hgb2, hbf2, b0, b1, b2, b3, b4, b5, b6, b7, b8, b9, b10⟩ := own_box hbx2
    obtain ⟨hg3, r0, r1, r2, r3, r4, r5, r6, r7, r8, r9, r10⟩ := own_en ho2 HY.out
    have HX2 := Lib.hid hX2; have HFIT := Lib.hid hfit
    clear hX2 hfit b0 b3 b4 b5 b6 b7 b8 b9 b10 r0 r3 r4 r5 r6 r7 r8 r9 r10
    go_wp2_with fail
    go_region
    all_goals
     have hmin : (if y.s < X2.s then y.s else X2.s) = min X2.s y.s := by split <;> omega
     have hmax : (if X2.e < y.e then y.e else X2.e) = max X2.e y.e := by split <;> omega
     rw [hmin, hmax]
     have hJ : mkEn X2.k (min X2.s y.s) (max X2.e y.e) X2.a X2.b = enJ x' y := by rw [HX2.out]; rfl
     have hbx3 := own_put hbx2 (i := 0) (x := X2) (x' := enJ x' y) rfl (o := 1) (us := [.int .i64 (min X2.s y.s), .int .i64 (max X2.e y.e)]) (by rw [← hJ]; rfl) (by simp)
     simp only [Nat.zero_mul, Nat.zero_add] at hbx3
     change Own enenc 11 ((w2.setCell ⟨w.heap.size, 1, none⟩ (.int .i64 (min X2.s y.s))).setCell ⟨w.heap.size, 2, none⟩ (.int .i64 (max X2.e y.e))) w.heap.size 62 (.slice (some ⟨w.heap.size, 0, none⟩) 1 1) [enJ x' y] ∧ w2.grownBy ((w2.setCell ⟨w.heap.size, 1, none⟩ (.int .i64 (min X2.s y.s))).setCell ⟨w.heap.size, 2, none⟩ (.int .i64 (max X2.e y.e))) (some w.heap.size) at hbx3
     have ho3 := ho2.grown hbx3.2 (.inr (fun e => by have e' : some g = some w.heap.size := e; injection e' with e'; omega))
     have HG3 := Lib.hid (grown_above HG.out hbx3.2 (Nat.le_refl _))
     have HBX3 := Lib.hid (own_drew hbx3.1)
     have ho4 := own_drew ho3
     have hfit2 : fitE (enJ x' y) = true := HFIT.out
     have HFIT2 := Lib.hid hfit2
     clear hmin hmax hJ hbx3 ho3 hfit2 b1 b2 r1 r2
     go_wp2_with fail
     go_at_call 94
     refine (delete_any base g i m c l' _ HM.out (by omega) him ho4).mono ?_
     rintro r w5 ⟨rfl, ho5, hg5⟩
     have HG5 := Lib.hid (grown_trans (grown_trans HG3.out (grown_of_below (below_drew (Below.refl _ _)) (some g))) hg5)
     have HBX5 := Lib.hid (HBX3.out.grown hg5 (.inr (fun e => by have e' : some w.heap.size = some g := e; injection e' with e'; omega)))
     clear hg5
     go_wp2
     go_roundw
     case rel => exact ⟨m - 1, l'.eraseIdx i, enJ x' y, rfl, by rw [List.length_eraseIdx_of_lt (by rw [HM.out]; exact him), HM.out], by omega, ho5, HBX5.out, ss_sub HS'.out (List.eraseIdx_sublist l' i), HME2.out, fit_parts HX'.out HYR.out HFIT2.out, HFIT2.out, HG5.out⟩
     case measure => simp [lenV]; omega
   ·have hpf : (putE true l x).2 = false := absorb_many (enR_w HX.out) (fun y hy => enR_w (HOK.out y hy)) HME2.out hfit
    have HPF := Lib.hid hpf
    clear hpf hfit
    go_wp2
    go_ret2
    exact ⟨.slice none 0 0, 4, rfl, HG.out, .inr ⟨rfl, HPF.out⟩⟩
theorem en_new (w : World) (x : En) (t : TypeId) (g : Nat) (hg : g = w.heap.size) : ∀ j u, ([x].flatMap enenc)[j]? = some u → (w.alloc (.cells (enenc x).toArray t)).cell? ((⟨g, 0, none⟩ : Addr).add j) = some u := by
 subst hg
 intro j u hj
 rw [Addr.add_lit, World.cell?_alloc_at _ _ _ _ rfl]
 simpa using hj
end Go.Proofs.YtnljihjhmgpcoaaGreat
