/- Lemmas and contracts for the statement, joined into one text: StoreAdd, StoreGiven. The conditions of each stand at its head. -/
import Derived.Test.YtnljihjhmgpcoaaGreatJ1
import Derived.Test.YtnljihjhmgpcoaaGreatJ14
import Derived.Test.YtnljihjhmgpcoaaGreatJ8
import Derived.Test.YtnljihjhmgpcoaaGreatJ16
import Derived.Test.YtnljihjhmgpcoaaGreatJ4
import Derived.Test.YtnljihjhmgpcoaaGreatJ22
namespace Go.Proofs.YtnljihjhmgpcoaaGreat
open Go.RowKit
/-- What Add leaves. -/
def AddP (l : List En) (wk ws we rk rt rv side : Int) (w : World) (r : Ending) (w' : World) : Prop :=
 ∃ v, r = .returned (.tuple #[v, .int .i64 (addE l wk ws we rk rt rv side).2]) ∧ Own enenc 11 w' w.heap.size 62 v (addE l wk ws we rk rt rv side).1 ∧ Below w.heap.size w w'
theorem AddP.no {l : List En} {wk ws we rk rt rv side e : Int} {w w' : World} (h : addE l wk ws we rk rt rv side = ([], e)) (hb : Below w.heap.size w w') : AddP l wk ws we rk rt rv side w (.returned (.tuple #[.slice none 0 0, .int .i64 e])) w' := by
 unfold AddP
 rw [h]
 exact ⟨_, rfl, Own.nil _ _ _, hb⟩
theorem AddP.yes {l l' : List En} {wk ws we rk rt rv side : Int} {w w' : World} {v : Value} (h : addE l wk ws we rk rt rv side = (l', 0)) (ho : Own enenc 11 w' w.heap.size 62 v l') (hb : Below w.heap.size w w') : AddP l wk ws we rk rt rv side w (.returned (.tuple #[v, .int .i64 0])) w' := by
 unfold AddP
 rw [h]
 exact ⟨_, rfl, ho, hb⟩
theorem recE_R {k v side s e : Int} (h : s < e) : enR (recE k v side s e) := by
 have h1 : (accV v).ok := .inr (.inl ⟨rfl, rfl, rfl⟩)
 have h0 : acc0.ok := .inl ⟨rfl, rfl, rfl, rfl⟩
 unfold recE
 split
 ·exact ⟨h, h1, h0⟩
 ·exact ⟨h, h0, h1⟩
theorem recE_fit (k v side s e : Int) : fitE (recE k v side s e) = true := by
 unfold recE fitE
 split <;> simp [mkEn, accV, acc0]
theorem recE_0 (k v s e : Int) : recE k v 0 s e = ⟨k, s, e, 1, v, v, v, 0, 0, 0, 0⟩ := rfl
theorem recE_1 (k v s e : Int) : recE k v 1 s e = ⟨k, s, e, 0, 0, 0, 0, 1, v, v, v⟩ := rfl
theorem foldJ_R {x : En} (hx : enR x) : ∀ {ys : List En}, (∀ y ∈ ys, enR y) → fitE (ys.foldl enJ x) = true → enR (ys.foldl enJ x) := by
 intro ys
 induction ys generalizing x with
 | nil => intro _ _; exact hx
 | cons y ys ih =>
  intro h hf
  have hy := h y (by simp)
  have h1 := foldJ_mono (enw_J (enR_w hx) (enR_w hy)) (ys := ys) (fun z hz => enR_w (h z (by simp [hz])))
  simp only [List.foldl_cons] at hf ⊢
  refine ih (fit_parts hx hy ?_) (fun z hz => h z (by simp [hz])) hf
  unfold fitE at *
  simp only [decide_eq_true_eq] at *
  omega
theorem putE_R {sess : Bool} {l : List En} {x : En} (hx : enR x) (hl : ∀ y ∈ l, enR y) (hf : (putE sess l x).2 = true) : (∀ y ∈ (putE sess l x).1, enR y) ∧ (putE sess l x).1.length ≤ l.length + 1 := by
 obtain ⟨ys, h1, h2, h3, h4, _⟩ := (absorb_meets (hitE sess) l.length l x).facts
 have hx' : enR (absorb (hitE sess) l.length l x).2 := by
  rw [h3]
  exact foldJ_R hx (fun y hy => hl y (h1.mem_iff.2 (List.mem_append_left _ hy))) (by rw [← h3]; exact hf)
 constructor
 ·intro y hy
  rcases List.mem_cons.1 ((insE_perm _ _).mem_iff.1 hy) with rfl | h
  ·exact hx'
  ·exact hl y (h2.subset h)
 ·unfold putE
  rw [(insE_perm _ _).length_eq, List.length_cons]
  omega
theorem sof_single {t g : Int} (h : sck t g = 0) (hg : 1 ≤ g) : sof [t] g = ([(t, t + g)], 0) := by
 have h0 : sck 0 g = 0 := sck_zero_gap h
 unfold sof
 rw [if_neg (by simp [h0]), if_neg (by simp), if_pos (by simpa using h)]
 have e : stimes g [t] = [(t, t + g)] := rfl
 rw [e, canon_same (show Good [(t, t + g)] from by simp [Good]; omega)]
/-- What the windows of a time are. -/
theorem wof_ok {wk ws we rt : Int} (h : wok wk ws we) (hk : wk ≠ 3) (t1 : -1099511627776 ≤ rt) (t2 : rt ≤ 1099511627776) : wof wk ws we rt = (wspans wk ws we rt, 0) := by
 unfold wof
 rw [if_neg (by simp [h]), if_neg hk, if_neg (by omega)]
theorem wspans_ok {wk ws we rt : Int} (h : wok wk ws we) (t1 : -1099511627776 ≤ rt) (t2 : rt ≤ 1099511627776) : (∀ p ∈ wspans wk ws we rt, p.1 < p.2) ∧ (wspans wk ws we rt).length ≤ 18 := by
 obtain ⟨⟨s1, s2⟩, h⟩ := h
 unfold wspans
 by_cases h1 : wk = 1
 ·rw [if_pos h1]
  have ht : tchk rt ws = 0 := tchk_zero.2 ⟨s1, s2, t1, t2⟩
  have : tspan rt ws = (rt / ws * ws, rt / ws * ws + ws) := by unfold tspan; rw [if_pos ht]
  rw [this]
  simp
  omega
 ·rw [if_neg h1]
  unfold swins
  refine ⟨fun p hp => ?_, swk_len _ _ _ _ _⟩
  unfold swk at hp
  obtain ⟨i, _, rfl⟩ := List.mem_map.1 hp
  simp only
  omega
theorem foldW_snoc {f : List En → En → List En × Bool} {mk : Int × Int → En} {ss : List (Int × Int)} {l : List En} {k : Nat} {p : Int × Int} (h : ss[k]? = some p) :
  foldW f mk (ss.take (k + 1)) l = ((f (foldW f mk (ss.take k) l).1 (mk p)).1, (foldW f mk (ss.take k) l).2 && (f (foldW f mk (ss.take k) l).1 (mk p)).2) := by
 unfold foldW
 rw [List.take_add_one, h]
 simp
theorem foldW_false {f : List En → En → List En × Bool} {mk : Int × Int → En} {ss : List (Int × Int)} {l : List En} {k : Nat} (h : (foldW f mk (ss.take k) l).2 = false) : (foldW f mk ss l).2 = false := by
 have e : foldW f mk ss l = (ss.drop k).foldl (fun st p => ((f st.1 (mk p)).1, st.2 && (f st.1 (mk p)).2)) (foldW f mk (ss.take k) l) := by
  unfold foldW
  rw [← List.foldl_append, List.take_append_drop]
 rw [e]
 have e2 : foldW f mk (ss.take k) l = ((foldW f mk (ss.take k) l).1, false) := Prod.ext rfl h
 rw [e2]
 exact fold_false _ _
set_option maxHeartbeats 16000000 in
set_option maxRecDepth 100000 in
theorem add_any (A : Option Addr) (c n : Nat) (l : List En) (wk ws we rk rt rv side : Int) (hwe : (Lit.int .i64 we).wf = true) (w : World) (hln : l.length = n) (hz : A = none → c = 0) (hn : n ≤ 1099511627776) (hr : Rd enenc 11 w w.heap.size A l) :
  Calls Tryz.prog 24 #[.slice A n c, .agg #[.int .u8 wk, .int .i64 ws, .int .i64 we], .agg #[.int .i64 rk, .int .i64 rt, .int .i64 rv], .int .i64 side] w (AddP l wk ws we rk rt rv side w) := by
 have hL : Loc w [] := trivial
 obtain ⟨E, hE0⟩ : ∃ E, E = enchk l := ⟨_, rfl⟩
 have hck := fun W (h : Rd enenc 11 W W.heap.size A l) => storecheck_any A c n l W hln hn h
 rw [← hE0] at hck
 have HCK := Lib.hid hck; have HE0 := Lib.hid hE0; have HLN := Lib.hid hln; have HZ := Lib.hid hz
 have hwin := fun W => window_any wk ws we hwe W
 obtain ⟨D, hD⟩ : ∃ D, D = wchk wk ws we := ⟨_, rfl⟩
 rw [← hD] at hwin
 have HWIN := Lib.hid hwin; have HD := Lib.hid hD
 have HAOF := Lib.hid (fun W => aof_any rv W)
 clear hck hE0 hln hz hwin hD
 by_cases h1 : E = 0
 ·by_cases h2 : D = 0
  ·have hwok : wok wk ws we := by
    have := HD.out
    unfold wchk at this
    by_cases h : wok wk ws we
    ·exact h
    ·rw [if_neg h] at this; omega
   by_cases h3 : side < 0 ∨ 1 < side
   ·have hres : addE l wk ws we rk rt rv side = ([], 2) := by unfold addE; rw [if_neg (by rw [← HE0.out]; simp [h1]), if_neg (by simp [hwok]), if_pos h3]
    have HRES := Lib.hid hres
    have d0 : (side != 0) = true := by simp; omega
    have d1 : (side != 1) = true := by simp; omega
    subst h1 h2
    clear hres h3 hwok
    go_enter Tryz.func24, Tryz.ntmps24
    go_wp2_with fail
    go_at_call 52
    refine (HCK.out _ (rd_grown hr blr)).mono ?_
    rintro r w1 ⟨rfl, hb1⟩
    replace hL := kp hb1; (repeat rw [World.size_alloc] at hL); have hF := hL; (repeat unfold Loc at hF)
    go_wp2_with fail
    go_at_call 53
    refine (HWIN.out _).mono ?_
    rintro r w2 ⟨rfl, hb2⟩
    clear hF
    replace hL := kp hb2; (repeat rw [World.size_alloc] at hL); have hF := hL; (repeat unfold Loc at hF)
    go_wp2
    go_ret2
    exact AddP.no HRES.out blr
   ·by_cases h4 : rt < -1099511627776 ∨ 1099511627776 < rt
    ·have hres : addE l wk ws we rk rt rv side = ([], 16) := by unfold addE; rw [if_neg (by rw [← HE0.out]; simp [h1]), if_neg (by simp [hwok]), if_neg h3, if_pos h4]
     have HRES := Lib.hid hres
     subst h1 h2
     rcases (show side = 0 ∨ side = 1 by omega) with rfl | rfl <;> rcases h4 with h4 | h4
     all_goals
      clear hres h3 hwok
      go_enter Tryz.func24, Tryz.ntmps24
      go_wp2_with fail
      go_at_call 52
      refine (HCK.out _ (rd_grown hr blr)).mono ?_
      rintro r w1 ⟨rfl, hb1⟩
      replace hL := kp hb1; (repeat rw [World.size_alloc] at hL); have hF := hL; (repeat unfold Loc at hF)
      go_wp2_with fail
      go_at_call 53
      refine (HWIN.out _).mono ?_
      rintro r w2 ⟨rfl, hb2⟩
      clear hF
      replace hL := kp hb2; (repeat rw [World.size_alloc] at hL); have hF := hL; (repeat unfold Loc at hF)
      go_wp2
      all_goals (go_ret2; exact AddP.no HRES.out blr)
    ·obtain ⟨g4, gok, gss⟩ := enchk_zero.1 (HE0.out.symm.trans h1)
     have gR : ∀ y ∈ l, enR y := fun y hy => by obtain ⟨a1, a2, a3, _⟩ := enok_iff.1 (gok y hy); exact ⟨a1.2.1, a2, a3⟩
     have t1 : -1099511627776 ≤ rt := by omega
     have t2 : rt ≤ 1099511627776 := by omega
     have hres : addE l wk ws we rk rt rv side = (if (givE l wk ws we rk rt rv side).2 = true then ((givE l wk ws we rk rt rv side).1, 0) else ([], 4)) := by unfold addE; rw [if_neg (by rw [← HE0.out]; simp [h1]), if_neg (by simp [hwok]), if_neg h3, if_neg h4]
     rw [givE_put gss (fun y hy => enR_w (gR y hy)) (fun p hp => enR_w (recE_R hp)) (fun _ => (wspans_ok hwok t1 t2).1)] at hres
     rw [HLN.out] at g4
     have GSS := Lib.hid gss; have GR := Lib.hid gR; have HWOK := Lib.hid hwok; have HRES := Lib.hid hres
     subst h1 h2
     clear gok gss gR h4 hres
     by_cases hk : wk = 3
     ·subst hk
      have hg1 : 1 ≤ ws ∧ ws ≤ 1073741824 := hwok.1
      obtain ⟨s1, s2⟩ := hg1
      have hso := sof_single (t := rt) (g := ws) (by unfold sck; rw [if_neg (by omega), if_neg (by omega)]) s1
      have hsof := fun A c W h => sof_any A c 1 [rt] ws W rfl h
      rw [hso] at hsof
      have HSOF := Lib.hid hsof
      clear hwok hso hsof
      rcases (show side = 0 ∨ side = 1 by omega) with rfl | rfl
      ·clear h3
       go_enter Tryz.func24, Tryz.ntmps24
       go_wp2_with fail
       go_at_call 52
       refine (HCK.out _ (rd_grown hr blr)).mono ?_
       rintro r w1 ⟨rfl, hb1⟩
       replace hL := kp hb1; (repeat rw [World.size_alloc] at hL); have hF := hL; (repeat unfold Loc at hF)
       go_wp2_with fail
       go_at_call 53
       refine (HWIN.out _).mono ?_
       rintro r w2 ⟨rfl, hb2⟩
       clear hF
       replace hL := kp hb2; (repeat rw [World.size_alloc] at hL); have hF := hL; (repeat unfold Loc at hF)
       go_wp2_with fail
       go_at_call 38
       refine (HAOF.out _).mono ?_
       rintro r w5 ⟨rfl, hb5⟩
       have hsz2 : w.heap.size + 1 < w2.heap.size := by omega
       clear hF
       replace hL := kp hb5; (repeat rw [World.size_alloc] at hL); have hF := hL; (repeat unfold Loc at hF)
       go_wp2_with fail
       have hl6 : Loc ((((w5.setCell ⟨w2.heap.size, 3, none⟩ (.int .i64 1)).setCell ⟨w2.heap.size, 4, none⟩ (.int .i64 rv)).setCell ⟨w2.heap.size, 5, none⟩ (.int .i64 rv)).setCell ⟨w2.heap.size, 6, none⟩ (.int .i64 rv)) [(w2.heap.size, [.int .i64 rk, .int .i64 0, .int .i64 0, .int .i64 1, .int .i64 rv, .int .i64 rv, .int .i64 rv, .int .i64 0, .int .i64 0, .int .i64 0, .int .i64 0]), (w.heap.size + 1, [.int .i64 rk, .int .i64 rt, .int .i64 rv]), (w.heap.size, [.int .u8 3, .int .i64 ws, .int .i64 we])] := ((((hL.put (by simp; omega) 3 _ (by simp)).put (by simp; omega) 4 _ (by simp)).put (by simp; omega) 5 _ (by simp)).put (by simp; omega) 6 _ (by simp))
       have hb6 : Below w.heap.size w ((((w5.setCell ⟨w2.heap.size, 3, none⟩ (.int .i64 1)).setCell ⟨w2.heap.size, 4, none⟩ (.int .i64 rv)).setCell ⟨w2.heap.size, 5, none⟩ (.int .i64 rv)).setCell ⟨w2.heap.size, 6, none⟩ (.int .i64 rv)) := blr
       obtain ⟨W6, hW6⟩ : ∃ W6, W6 = ((((w5.setCell ⟨w2.heap.size, 3, none⟩ (.int .i64 1)).setCell ⟨w2.heap.size, 4, none⟩ (.int .i64 rv)).setCell ⟨w2.heap.size, 5, none⟩ (.int .i64 rv)).setCell ⟨w2.heap.size, 6, none⟩ (.int .i64 rv)) := ⟨_, rfl⟩
       rw [← hW6] at hl6 hb6 ⊢
       obtain ⟨xb, hxb⟩ : ∃ xb, xb = w2.heap.size := ⟨_, rfl⟩
       rw [← hxb] at hl6 ⊢
       have hx1 : w.heap.size + 1 < xb := by rw [hxb]; exact hsz2
       clear hF hL
       clear hW6 hxb hsz2 hb5 hb2 hb1 w5 w2 w1
       go_at_call 54
       refine (enclone_any A c n l W6 HLN.out HZ.out (by omega) (rd_grown hr hb6)).mono ?_
       rintro r w7 ⟨v7, rfl, own7, hb7⟩
       have hl7 := hl6.below hb7
       have hb7' : Below w.heap.size w w7 := below_then hb6 hb7
       have hs6 := hl6.1
       have hlt7 := fun k hk => World.ownsRow.lt own7 k hk
       have HLT7 := Lib.hid hlt7
       obtain ⟨B, hB⟩ : ∃ B, B = W6.heap.size := ⟨_, rfl⟩
       rw [← hB] at own7 HLT7 hs6
       have hBw : w.heap.size ≤ B := by rw [hB]; exact hb6.size
       have hB7 : B ≤ w7.heap.size := by rw [hB]; exact hb7.size
       have hF := hl7
       (repeat unfold Loc at hF)
       clear hb6 hb7 hl6 hlt7 hB W6
       go_wp2_with fail
       go_at_call 55
       refine (HSOF.out (some ⟨w7.heap.size, 0, none⟩) 1 _ ((rd_new w7 [rt] _).more (by simp))).mono ?_
       rintro r w8 ⟨v8, rfl, own8, hb8⟩
       obtain ⟨g8, c8, rfl, hc8, hg8⟩ := World.ownsRow.form own8 (by simp)
       obtain ⟨q1, q2, hg8'⟩ := own_sp own8 (k := 0) (x := (rt, rt + ws)) rfl
       simp only [Nat.zero_mul, Nat.zero_add] at q1 q2
       have hl8 := (hl7.old _).below hb8
       have hne8 : g8 ≠ xb := by have := (World.ownsRow.lt own8 g8 rfl).1; rw [World.size_alloc] at this; omega
       have own78 := ((own7.alloc _).below hb8)
       have hb8' : Below w.heap.size w w8 := below_then (below_new hb7' _) hb8
       have hz8 : B ≤ w8.heap.size := by have := hb8.size; rw [World.size_alloc] at this; omega
       clear hF
       have hF := hl8
       (repeat unfold Loc at hF)
       clear hl7 own7 hb7' hb8 own8 hB7
       go_wp2_with fail
       have hl9 : Loc ((w8.setCell ⟨xb, 1, none⟩ (.int .i64 rt)).setCell ⟨xb, 2, none⟩ (.int .i64 (rt + ws))) [(xb, [.int .i64 rk, .int .i64 rt, .int .i64 (rt + ws), .int .i64 1, .int .i64 rv, .int .i64 rv, .int .i64 rv, .int .i64 0, .int .i64 0, .int .i64 0, .int .i64 0])] := ((Loc.put (l := []) ⟨hl8.1, hl8.2.1, hl8.2.2.1, trivial⟩ (by simp) 1 _ (by simp)).put (by simp) 2 _ (by simp))
       have hb9 : Below w.heap.size w ((w8.setCell ⟨xb, 1, none⟩ (.int .i64 rt)).setCell ⟨xb, 2, none⟩ (.int .i64 (rt + ws))) := blr
       have own79 : Own enenc 11 ((w8.setCell ⟨xb, 1, none⟩ (.int .i64 rt)).setCell ⟨xb, 2, none⟩ (.int .i64 (rt + ws))) B 62 v7 l := own78.grown (putW_grown xb 1 [.int .i64 rt, .int .i64 (rt + ws)] 0 w8) (own_apart own78 hs6)
       go_at_call 56
       refine (meet_any v7 B n l ⟨rk, rt, (rt + ws), 1, rv, rv, rv, 0, 0, 0, 0⟩ _ HLN.out (by omega) own79 (by simpa [World.setCell] using hz8) GSS.out (fun y hy => GR.out y hy) (by have h := recE_R (k := rk) (v := rv) (side := 0) (s := rt) (e := rt + ws) (by omega); rw [recE_0] at h; exact h) (by have h := recE_fit rk rv 0 rt (rt + ws); rw [recE_0] at h; exact h)).mono ?_
       rintro r w10 ⟨v10, err, rfl, hg10, hres10⟩
       have hb10 : Below w.heap.size w w10 := hb9.grown hg10 hb9.size (fun k hk => by have := (HLT7.out k hk).1; omega)
       have hres2 := HRES.out
       simp only [if_true] at hres2
       rw [recE_0] at hres2
       clear hF hl8 hl9 hb9 own79 own78 hb8' q1 q2 hg10 hg8 hg8'
       rcases hres10 with ⟨rfl, own10, hp10, -⟩ | ⟨rfl, hp10⟩
       ·have hlen : (putE true l ⟨rk, rt, (rt + ws), 1, rv, rv, rv, 0, 0, 0, 0⟩).1.length ≤ n + 1 := by have := (putE_R (sess := true) (l := l) (x := ⟨rk, rt, (rt + ws), 1, rv, rv, rv, 0, 0, 0, 0⟩) (by have h := recE_R (k := rk) (v := rv) (side := 0) (s := rt) (e := rt + ws) (by omega); rw [recE_0] at h; exact h) GR.out hp10).2; rw [HLN.out] at this; exact this
        obtain ⟨m, hm⟩ : ∃ m, m = (putE true l ⟨rk, rt, (rt + ws), 1, rv, rv, rv, 0, 0, 0, 0⟩).1.length := ⟨_, rfl⟩
        rw [← hm] at hlen
        rw [hp10, ← hm] at hres2
        obtain ⟨A10, c10, rfl, -⟩ := own_shape_n own10 hm.symm
        by_cases h9 : 4000 < m
        ·have b1 : decide ((4000 : Int) < (m : Int)) = true := by simp; omega
         have b1' : decide (4000 < m) = true := by simp [h9]
         rw [if_neg (by simp; omega)] at hres2
         have HRES2 := Lib.hid hres2
         clear hres2 hp10 hm
         go_wp2
         go_ret2
         exact AddP.no HRES2.out hb10
        ·have b1 : decide ((4000 : Int) < (m : Int)) = false := by simp; omega
         have b1' : decide (4000 < m) = false := by simp [h9]
         rw [if_pos (by simp; omega)] at hres2
         have HRES2 := Lib.hid hres2
         clear hres2 hp10 hm
         go_wp2
         go_ret2
         exact AddP.yes HRES2.out (own10.mono hBw) hb10
       ·rw [hp10, if_neg (by simp)] at hres2
        have HRES2 := Lib.hid hres2
        clear hres2 hp10
        go_wp2
        go_ret2
        exact AddP.no HRES2.out hb10
      ·clear h3
       go_enter Tryz.func24, Tryz.ntmps24
       go_wp2_with fail
       go_at_call 52
       refine (HCK.out _ (rd_grown hr blr)).mono ?_
       rintro r w1 ⟨rfl, hb1⟩
       replace hL := kp hb1; (repeat rw [World.size_alloc] at hL); have hF := hL; (repeat unfold Loc at hF)
       go_wp2_with fail
       go_at_call 53
       refine (HWIN.out _).mono ?_
       rintro r w2 ⟨rfl, hb2⟩
       clear hF
       replace hL := kp hb2; (repeat rw [World.size_alloc] at hL); have hF := hL; (repeat unfold Loc at hF)
       go_wp2_with fail
       go_at_call 38
       refine (HAOF.out _).mono ?_
       rintro r w5 ⟨rfl, hb5⟩
       have hsz2 : w.heap.size + 1 < w2.heap.size := by omega
       clear hF
       replace hL := kp hb5; (repeat rw [World.size_alloc] at hL); have hF := hL; (repeat unfold Loc at hF)
       go_wp2_with fail
       have hl6 : Loc ((((w5.setCell ⟨w2.heap.size, 7, none⟩ (.int .i64 1)).setCell ⟨w2.heap.size, 8, none⟩ (.int .i64 rv)).setCell ⟨w2.heap.size, 9, none⟩ (.int .i64 rv)).setCell ⟨w2.heap.size, 10, none⟩ (.int .i64 rv)) [(w2.heap.size, [.int .i64 rk, .int .i64 0, .int .i64 0, .int .i64 0, .int .i64 0, .int .i64 0, .int .i64 0, .int .i64 1, .int .i64 rv, .int .i64 rv, .int .i64 rv]), (w.heap.size + 1, [.int .i64 rk, .int .i64 rt, .int .i64 rv]), (w.heap.size, [.int .u8 3, .int .i64 ws, .int .i64 we])] := ((((hL.put (by simp; omega) 7 _ (by simp)).put (by simp; omega) 8 _ (by simp)).put (by simp; omega) 9 _ (by simp)).put (by simp; omega) 10 _ (by simp))
       have hb6 : Below w.heap.size w ((((w5.setCell ⟨w2.heap.size, 7, none⟩ (.int .i64 1)).setCell ⟨w2.heap.size, 8, none⟩ (.int .i64 rv)).setCell ⟨w2.heap.size, 9, none⟩ (.int .i64 rv)).setCell ⟨w2.heap.size, 10, none⟩ (.int .i64 rv)) := blr
       obtain ⟨W6, hW6⟩ : ∃ W6, W6 = ((((w5.setCell ⟨w2.heap.size, 7, none⟩ (.int .i64 1)).setCell ⟨w2.heap.size, 8, none⟩ (.int .i64 rv)).setCell ⟨w2.heap.size, 9, none⟩ (.int .i64 rv)).setCell ⟨w2.heap.size, 10, none⟩ (.int .i64 rv)) := ⟨_, rfl⟩
       rw [← hW6] at hl6 hb6 ⊢
       obtain ⟨xb, hxb⟩ : ∃ xb, xb = w2.heap.size := ⟨_, rfl⟩
       rw [← hxb] at hl6 ⊢
       have hx1 : w.heap.size + 1 < xb := by rw [hxb]; exact hsz2
       clear hF hL
       clear hW6 hxb hsz2 hb5 hb2 hb1 w5 w2 w1
       go_at_call 54
       refine (enclone_any A c n l W6 HLN.out HZ.out (by omega) (rd_grown hr hb6)).mono ?_
       rintro r w7 ⟨v7, rfl, own7, hb7⟩
       have hl7 := hl6.below hb7
       have hb7' : Below w.heap.size w w7 := below_then hb6 hb7
       have hs6 := hl6.1
       have hlt7 := fun k hk => World.ownsRow.lt own7 k hk
       have HLT7 := Lib.hid hlt7
       obtain ⟨B, hB⟩ : ∃ B, B = W6.heap.size := ⟨_, rfl⟩
       rw [← hB] at own7 HLT7 hs6
       have hBw : w.heap.size ≤ B := by rw [hB]; exact hb6.size
       have hB7 : B ≤ w7.heap.size := by rw [hB]; exact hb7.size
       have hF := hl7
       (repeat unfold Loc at hF)
       clear hb6 hb7 hl6 hlt7 hB W6
       go_wp2_with fail
       go_at_call 55
       refine (HSOF.out (some ⟨w7.heap.size, 0, none⟩) 1 _ ((rd_new w7 [rt] _).more (by simp))).mono ?_
       rintro r w8 ⟨v8, rfl, own8, hb8⟩
       obtain ⟨g8, c8, rfl, hc8, hg8⟩ := World.ownsRow.form own8 (by simp)
       obtain ⟨q1, q2, hg8'⟩ := own_sp own8 (k := 0) (x := (rt, rt + ws)) rfl
       simp only [Nat.zero_mul, Nat.zero_add] at q1 q2
       have hl8 := (hl7.old _).below hb8
       have hne8 : g8 ≠ xb := by have := (World.ownsRow.lt own8 g8 rfl).1; rw [World.size_alloc] at this; omega
       have own78 := ((own7.alloc _).below hb8)
       have hb8' : Below w.heap.size w w8 := below_then (below_new hb7' _) hb8
       have hz8 : B ≤ w8.heap.size := by have := hb8.size; rw [World.size_alloc] at this; omega
       clear hF
       have hF := hl8
       (repeat unfold Loc at hF)
       clear hl7 own7 hb7' hb8 own8 hB7
       go_wp2_with fail
       have hl9 : Loc ((w8.setCell ⟨xb, 1, none⟩ (.int .i64 rt)).setCell ⟨xb, 2, none⟩ (.int .i64 (rt + ws))) [(xb, [.int .i64 rk, .int .i64 rt, .int .i64 (rt + ws), .int .i64 0, .int .i64 0, .int .i64 0, .int .i64 0, .int .i64 1, .int .i64 rv, .int .i64 rv, .int .i64 rv])] := ((Loc.put (l := []) ⟨hl8.1, hl8.2.1, hl8.2.2.1, trivial⟩ (by simp) 1 _ (by simp)).put (by simp) 2 _ (by simp))
       have hb9 : Below w.heap.size w ((w8.setCell ⟨xb, 1, none⟩ (.int .i64 rt)).setCell ⟨xb, 2, none⟩ (.int .i64 (rt + ws))) := blr
       have own79 : Own enenc 11 ((w8.setCell ⟨xb, 1, none⟩ (.int .i64 rt)).setCell ⟨xb, 2, none⟩ (.int .i64 (rt + ws))) B 62 v7 l := own78.grown (putW_grown xb 1 [.int .i64 rt, .int .i64 (rt + ws)] 0 w8) (own_apart own78 hs6)
       go_at_call 56
       refine (meet_any v7 B n l ⟨rk, rt, (rt + ws), 0, 0, 0, 0, 1, rv, rv, rv⟩ _ HLN.out (by omega) own79 (by simpa [World.setCell] using hz8) GSS.out (fun y hy => GR.out y hy) (by have h := recE_R (k := rk) (v := rv) (side := 1) (s := rt) (e := rt + ws) (by omega); rw [recE_1] at h; exact h) (by have h := recE_fit rk rv 1 rt (rt + ws); rw [recE_1] at h; exact h)).mono ?_
       rintro r w10 ⟨v10, err, rfl, hg10, hres10⟩
       have hb10 : Below w.heap.size w w10 := hb9.grown hg10 hb9.size (fun k hk => by have := (HLT7.out k hk).1; omega)
       have hres2 := HRES.out
       simp only [if_true] at hres2
       rw [recE_1] at hres2
       clear hF hl8 hl9 hb9 own79 own78 hb8' q1 q2 hg10 hg8 hg8'
       rcases hres10 with ⟨rfl, own10, hp10, -⟩ | ⟨rfl, hp10⟩
       ·have hlen : (putE true l ⟨rk, rt, (rt + ws), 0, 0, 0, 0, 1, rv, rv, rv⟩).1.length ≤ n + 1 := by have := (putE_R (sess := true) (l := l) (x := ⟨rk, rt, (rt + ws), 0, 0, 0, 0, 1, rv, rv, rv⟩) (by have h := recE_R (k := rk) (v := rv) (side := 1) (s := rt) (e := rt + ws) (by omega); rw [recE_1] at h; exact h) GR.out hp10).2; rw [HLN.out] at this; exact this
        obtain ⟨m, hm⟩ : ∃ m, m = (putE true l ⟨rk, rt, (rt + ws), 0, 0, 0, 0, 1, rv, rv, rv⟩).1.length := ⟨_, rfl⟩
        rw [← hm] at hlen
        rw [hp10, ← hm] at hres2
        obtain ⟨A10, c10, rfl, -⟩ := own_shape_n own10 hm.symm
        by_cases h9 : 4000 < m
        ·have b1 : decide ((4000 : Int) < (m : Int)) = true := by simp; omega
         have b1' : decide (4000 < m) = true := by simp [h9]
         rw [if_neg (by simp; omega)] at hres2
         have HRES2 := Lib.hid hres2
         clear hres2 hp10 hm
         go_wp2
         go_ret2
         exact AddP.no HRES2.out hb10
        ·have b1 : decide ((4000 : Int) < (m : Int)) = false := by simp; omega
         have b1' : decide (4000 < m) = false := by simp [h9]
         rw [if_pos (by simp; omega)] at hres2
         have HRES2 := Lib.hid hres2
         clear hres2 hp10 hm
         go_wp2
         go_ret2
         exact AddP.yes HRES2.out (own10.mono hBw) hb10
       ·rw [hp10, if_neg (by simp)] at hres2
        have HRES2 := Lib.hid hres2
        clear hres2 hp10
        go_wp2
        go_ret2
        exact AddP.no HRES2.out hb10
     ·obtain ⟨SP, hSP⟩ : ∃ SP, SP = wspans wk ws we rt := ⟨_, rfl⟩
      obtain ⟨hsp, hspl⟩ := wspans_ok hwok t1 t2
      have hslof := fun W => slof_any wk ws we rt hwe W
      rw [wof_ok hwok hk t1 t2] at hslof
      rw [← hSP] at hsp hspl hslof
      have hres3 := HRES.out
      simp only [hk, if_false] at hres3
      rw [← hSP] at hres3
      replace HRES := Lib.hid hres3
      obtain ⟨m, hm⟩ : ∃ m, SP.length = m := ⟨_, rfl⟩
      rw [hm] at hspl
      have HM := Lib.hid hm; have HSL := Lib.hid hslof; have HSP := Lib.hid hsp
      have dk : (wk == 3) = false := by simp [hk]
      clear hwok hSP hsp hslof hres3 hm hk
      rcases (show side = 0 ∨ side = 1 by omega) with rfl | rfl
      ·clear h3
       go_enter Tryz.func24, Tryz.ntmps24
       go_wp2_with fail
       go_at_call 52
       refine (HCK.out _ (rd_grown hr blr)).mono ?_
       rintro r w1 ⟨rfl, hb1⟩
       replace hL := kp hb1; (repeat rw [World.size_alloc] at hL); have hF := hL; (repeat unfold Loc at hF)
       go_wp2_with fail
       go_at_call 53
       refine (HWIN.out _).mono ?_
       rintro r w2 ⟨rfl, hb2⟩
       clear hF
       replace hL := kp hb2; (repeat rw [World.size_alloc] at hL); have hF := hL; (repeat unfold Loc at hF)
       go_wp2_with fail
       go_at_call 38
       refine (HAOF.out _).mono ?_
       rintro r w5 ⟨rfl, hb5⟩
       have hsz2 : w.heap.size + 1 < w2.heap.size := by omega
       clear hF
       replace hL := kp hb5; (repeat rw [World.size_alloc] at hL); have hF := hL; (repeat unfold Loc at hF)
       go_wp2_with fail
       have hl6 : Loc ((((w5.setCell ⟨w2.heap.size, 3, none⟩ (.int .i64 1)).setCell ⟨w2.heap.size, 4, none⟩ (.int .i64 rv)).setCell ⟨w2.heap.size, 5, none⟩ (.int .i64 rv)).setCell ⟨w2.heap.size, 6, none⟩ (.int .i64 rv)) [(w2.heap.size, [.int .i64 rk, .int .i64 0, .int .i64 0, .int .i64 1, .int .i64 rv, .int .i64 rv, .int .i64 rv, .int .i64 0, .int .i64 0, .int .i64 0, .int .i64 0]), (w.heap.size + 1, [.int .i64 rk, .int .i64 rt, .int .i64 rv]), (w.heap.size, [.int .u8 wk, .int .i64 ws, .int .i64 we])] := ((((hL.put (by simp; omega) 3 _ (by simp)).put (by simp; omega) 4 _ (by simp)).put (by simp; omega) 5 _ (by simp)).put (by simp; omega) 6 _ (by simp))
       have hb6 : Below w.heap.size w ((((w5.setCell ⟨w2.heap.size, 3, none⟩ (.int .i64 1)).setCell ⟨w2.heap.size, 4, none⟩ (.int .i64 rv)).setCell ⟨w2.heap.size, 5, none⟩ (.int .i64 rv)).setCell ⟨w2.heap.size, 6, none⟩ (.int .i64 rv)) := blr
       obtain ⟨W6, hW6⟩ : ∃ W6, W6 = ((((w5.setCell ⟨w2.heap.size, 3, none⟩ (.int .i64 1)).setCell ⟨w2.heap.size, 4, none⟩ (.int .i64 rv)).setCell ⟨w2.heap.size, 5, none⟩ (.int .i64 rv)).setCell ⟨w2.heap.size, 6, none⟩ (.int .i64 rv)) := ⟨_, rfl⟩
       rw [← hW6] at hl6 hb6 ⊢
       obtain ⟨xb, hxb⟩ : ∃ xb, xb = w2.heap.size := ⟨_, rfl⟩
       rw [← hxb] at hl6 ⊢
       have hx1 : w.heap.size + 1 < xb := by rw [hxb]; exact hsz2
       clear hF hL
       clear hW6 hxb hsz2 hb5 hb2 hb1 w5 w2 w1
       go_at_call 54
       refine (enclone_any A c n l W6 HLN.out HZ.out (by omega) (rd_grown hr hb6)).mono ?_
       rintro r w7 ⟨v7, rfl, own7, hb7⟩
       have hl7 := hl6.below hb7
       have hb7' : Below w.heap.size w w7 := below_then hb6 hb7
       have hs6 := hl6.1
       have hlt7 := fun k hk => World.ownsRow.lt own7 k hk
       have HLT7 := Lib.hid hlt7
       obtain ⟨B, hB⟩ : ∃ B, B = W6.heap.size := ⟨_, rfl⟩
       rw [← hB] at own7 HLT7 hs6
       have hBw : w.heap.size ≤ B := by rw [hB]; exact hb6.size
       have hB7 : B ≤ w7.heap.size := by rw [hB]; exact hb7.size
       have hF := hl7
       (repeat unfold Loc at hF)
       clear hb6 hb7 hl6 hlt7 hB W6
       go_wp2_with fail
       go_at_call 39
       refine (HSL.out _).mono ?_
       rintro r w8 ⟨v8, rfl, own8, hb8⟩
       have hl8 := Loc.below hb8 (l := [(xb, [.int .i64 rk, .int .i64 0, .int .i64 0, .int .i64 1, .int .i64 rv, .int .i64 rv, .int .i64 rv, .int .i64 0, .int .i64 0, .int .i64 0, .int .i64 0])]) ⟨hl7.1, hl7.2.1, hl7.2.2.1, trivial⟩
       have own78 := own7.below hb8
       have hb8' : Below w.heap.size w w8 := below_then hb7' hb8
       have hz8 : B ≤ w8.heap.size := Nat.le_trans hB7 hb8.size
       have hap8 : v8.ownBlock = none ∨ v8.ownBlock ≠ v7.ownBlock := by
        rcases hq : v8.ownBlock with _ | g
        ·exact .inl rfl
        ·refine .inr (fun e => ?_)
         have h1 := (HLT7.out g e.symm).2
         have h2 := (World.ownsRow.lt own8 g hq).1
         omega
       obtain ⟨A8, c8, rfl, -⟩ := own_shape_n own8 HM.out
       obtain ⟨B8, hB8⟩ : ∃ B8, B8 = w7.heap.size := ⟨_, rfl⟩
       rw [← hB8] at own8 hB7
       clear hF hl7 own7 hb7' hb8 HLT7 hB8
       clear w7
       go_wp2_with fail
       go_loopw [13, 93] (fun v i wr => ∃ (k : Nat) (lk : List En) (s e : Int), i = .int .i64 k ∧ k ≤ m ∧ foldW (putE false) (fun p => recE rk rv 0 p.1 p.2) (SP.take k) l = (lk, true) ∧ lk.length ≤ n + k ∧ SS lk ∧ (∀ y ∈ lk, enR y) ∧ Own enenc 11 wr B 62 v lk ∧ ((Value.slice A8 m c8).ownBlock = none ∨ (Value.slice A8 m c8).ownBlock ≠ v.ownBlock) ∧ Own senc 2 wr B8 59 (.slice A8 m c8) SP ∧ Loc wr [(xb, [.int .i64 rk, .int .i64 s, .int .i64 e, .int .i64 1, .int .i64 rv, .int .i64 rv, .int .i64 rv, .int .i64 0, .int .i64 0, .int .i64 0, .int .i64 0])] ∧ Below w.heap.size w wr ∧ B ≤ wr.heap.size) (fun _ i _ => m - (intOf i).toNat)
       case atStart => exact ⟨0, l, 0, 0, rfl, Nat.zero_le _, rfl, by rw [HLN.out]; omega, GSS.out, GR.out, own78, hap8, own8, hl8, hb8', hz8⟩
       case round =>
        obtain ⟨k, lk, s, e, rfl, hkm, hfold, hlen, hss, hR, howo, hap, how8, hlx, hb, hzB⟩ := hrel
        clear own78 hap8 own8 hl8 hb8' hz8
        have hF := hlx
        (repeat unfold Loc at hF)
        have HFO := Lib.hid hfold; have HSS := Lib.hid hss; have HR := Lib.hid hR; have HAP := Lib.hid hap
        clear hfold hss hR hap
        by_cases hlt : k < m
        ·obtain ⟨⟨p1, p2⟩, hp⟩ : ∃ p, SP[k]? = some p := ⟨_, List.getElem?_eq_getElem (by rw [HM.out]; exact hlt)⟩
         have hpp : p1 < p2 := HSP.out (p1, p2) (List.mem_of_getElem? hp)
         obtain ⟨g8, rfl⟩ : ∃ g, A8 = some ⟨g, 0, none⟩ := by
          obtain ⟨b', off', e', -, -⟩ := (Own.rd senc_len how8) (by rintro rfl; simp at hp)
          obtain ⟨A', c', hv, -, -, hA⟩ := how8.form
          injection hv with hv1
          subst hv1
          obtain ⟨g, hg, -⟩ := hA _ e'
          exact ⟨g, by rw [e', hg]⟩
         obtain ⟨q1, q2, hg8⟩ := own_sp how8 hp
         dsimp only at q1 q2
         have hne8 : g8 ≠ xb ∨ g8 = xb := by omega
         have d1 : decide ((k : Int) < (m : Int)) = true := by simp; omega
         have d1' : decide (k < m) = true := by simp [hlt]
         have k1 : (0 : Int) ≤ (k : Int) := by omega
         have k2 : (k : Int) < (m : Int) := by omega
         have e1 : IntKind.i64.wrap ((k : Int) + 1) = (k : Int) + 1 := IntWalk.i64_in _ (by omega)
         have hnx : foldW (putE false) (fun p => recE rk rv 0 p.1 p.2) (SP.take (k + 1)) l = ((putE false lk ⟨rk, p1, p2, 1, rv, rv, rv, 0, 0, 0, 0⟩).1, (putE false lk ⟨rk, p1, p2, 1, rv, rv, rv, 0, 0, 0, 0⟩).2) := by
          have h := foldW_snoc (f := putE false) (mk := fun p => recE rk rv 0 p.1 p.2) (l := l) hp
          rw [HFO.out] at h
          simp only [Bool.true_and] at h
          exact h
         have hxg : xb ≠ g8 := by
          have := (World.ownsRow.lt how8 g8 rfl).1
          omega
         have HNX := Lib.hid hnx
         clear hnx hp hlt hne8
         go_wp2_with fail
         have hl9 : Loc ((wr.setCell ⟨xb, 1, none⟩ (.int .i64 p1)).setCell ⟨xb, 2, none⟩ (.int .i64 p2)) [(xb, [.int .i64 rk, .int .i64 p1, .int .i64 p2, .int .i64 1, .int .i64 rv, .int .i64 rv, .int .i64 rv, .int .i64 0, .int .i64 0, .int .i64 0, .int .i64 0])] := ((hlx.put (by simp) 1 _ (by simp)).put (by simp) 2 _ (by simp))
         have hb9 : Below w.heap.size w ((wr.setCell ⟨xb, 1, none⟩ (.int .i64 p1)).setCell ⟨xb, 2, none⟩ (.int .i64 p2)) := blr
         have hpg := putW_grown xb 1 [.int .i64 p1, .int .i64 p2] 0 wr
         have own9 : Own enenc 11 ((wr.setCell ⟨xb, 1, none⟩ (.int .i64 p1)).setCell ⟨xb, 2, none⟩ (.int .i64 p2)) B 62 _ lk := howo.grown hpg (own_apart howo hs6)
         have how9 : Own senc 2 ((wr.setCell ⟨xb, 1, none⟩ (.int .i64 p1)).setCell ⟨xb, 2, none⟩ (.int .i64 p2)) B8 59 (.slice (some ⟨g8, 0, none⟩) m c8) SP := how8.grown hpg (.inr (fun e => by have e' : some g8 = some xb := e; injection e' with e'; exact hxg e'.symm))
         have hz9 : B ≤ ((wr.setCell ⟨xb, 1, none⟩ (.int .i64 p1)).setCell ⟨xb, 2, none⟩ (.int .i64 p2)).heap.size := by simpa [World.setCell] using hzB
         have hxR : enR ⟨rk, p1, p2, 1, rv, rv, rv, 0, 0, 0, 0⟩ := by have h := recE_R (k := rk) (v := rv) (side := 0) hpp; rw [recE_0] at h; exact h
         have hxf : fitE ⟨rk, p1, p2, 1, rv, rv, rv, 0, 0, 0, 0⟩ = true := by have h := recE_fit rk rv 0 p1 p2; rw [recE_0] at h; exact h
         go_at_call 57
         refine (put_any _ B lk.length lk ⟨rk, p1, p2, 1, rv, rv, rv, 0, 0, 0, 0⟩ _ rfl (by omega) own9 hz9 HSS.out (fun y hy => HR.out y hy) hxR hxf).mono ?_
         rintro r w10 ⟨v10, err, l10, rfl, own10, hg10, hf10, hres10⟩
         have hlt9 := fun j hj => World.ownsRow.lt own9 j hj
         have hb10 : Below w.heap.size w w10 := hb9.grown hg10 hb9.size (fun j hj => by have := (hlt9 j hj).1; omega)
         have hl10 := Loc.grown hg10 (fun q hq => by simp at hq; subst hq; intro e; have := (hlt9 _ e.symm).1; simp at this; omega) hl9
         have how10 := how9.grown hg10 HAP.out
         have hz10 := Nat.le_trans hz9 hg10.size
         have hap10 : (Value.slice (some ⟨g8, 0, none⟩) m c8).ownBlock = none ∨ (Value.slice (some ⟨g8, 0, none⟩) m c8).ownBlock ≠ v10.ownBlock := by
          refine .inr (fun e => ?_)
          rcases hf10 with h | h
          ·rcases HAP.out with h' | h'
           ·cases h'
           ·exact h' (e.trans h)
          ·have h1 := h g8 e.symm
           have h2 : g8 < ((wr.setCell ⟨xb, 1, none⟩ (.int .i64 p1)).setCell ⟨xb, 2, none⟩ (.int .i64 p2)).heap.size := by simpa [World.setCell] using hg8
           omega
         have HRES10 := Lib.hid hres10; have HAP10 := Lib.hid hap10
         clear hF hlx hl9 hb9 hpg own9 how9 hz9 hlt9 hg10 hf10 how8 howo hb hzB hap10 q1 q2 hg8 HAP
         rcases HRES10.out with ⟨rfl, h1, h2⟩ | ⟨rfl, h2⟩
         ·obtain ⟨hR10, hlen10⟩ := putE_R hxR HR.out h2
          obtain ⟨hss10, -⟩ := putE_ss (sess := false) (x := ⟨rk, p1, p2, 1, rv, rv, rv, 0, 0, 0, 0⟩) HSS.out
          rw [← h1] at hR10 hlen10 hss10
          have hnx2 := HNX.out
          rw [h2, ← h1] at hnx2
          have HNX2 := Lib.hid hnx2; have HR10 := Lib.hid hR10; have HSS10 := Lib.hid hss10
          clear h1 h2 hR10 hss10 hnx2 HRES10
          go_wp2
          go_roundw
          case rel => exact ⟨k + 1, l10, p1, p2, by go_num, by omega, HNX2.out, by omega, HSS10.out, HR10.out, own10, HAP10.out, how10, hl10, hb10, hz10⟩
          case measure => simp [intOf]; omega
         ·have hnx2 := HNX.out
          rw [h2] at hnx2
          have hff := foldW_false (f := putE false) (mk := fun p => recE rk rv 0 p.1 p.2) (ss := SP) (l := l) (k := k + 1) (by rw [hnx2])
          have hres2 := HRES.out
          rw [hff] at hres2
          simp only [Bool.false_and, Bool.false_eq_true, if_false] at hres2
          have HRES2 := Lib.hid hres2
          clear h2 hnx2 hff hres2 HRES10
          go_wp2
          go_ret2
          exact AddP.no HRES2.out hb10
        ·obtain rfl : k = m := by omega
         have d1 : decide ((k : Int) < (k : Int)) = false := by simp
         have d1' : decide (k < k) = false := by simp
         have hfo := HFO.out
         rw [List.take_of_length_le (by rw [HM.out]; exact Nat.le_refl _)] at hfo
         have hres2 := HRES.out
         rw [hfo] at hres2
         simp only [Bool.true_and] at hres2
         obtain ⟨q, hq⟩ : ∃ q, q = lk.length := ⟨_, rfl⟩
         rw [← hq] at hres2 hlen
         obtain ⟨A10, c10, rfl, -⟩ := own_shape_n howo hq.symm
         clear hfo hF hlt
         by_cases h9 : 4000 < q
         ·have b1 : decide ((4000 : Int) < (q : Int)) = true := by simp; omega
          have b1' : decide (4000 < q) = true := by simp [h9]
          rw [if_neg (by simp; omega)] at hres2
          have HRES2 := Lib.hid hres2
          clear hres2 hq
          go_wp2
          go_ret2
          exact AddP.no HRES2.out hb
         ·have b1 : decide ((4000 : Int) < (q : Int)) = false := by simp; omega
          have b1' : decide (4000 < q) = false := by simp [h9]
          rw [if_pos (by simp; omega)] at hres2
          have HRES2 := Lib.hid hres2
          clear hres2 hq
          go_wp2
          go_ret2
          exact AddP.yes HRES2.out (howo.mono hBw) hb
      ·clear h3
       go_enter Tryz.func24, Tryz.ntmps24
       go_wp2_with fail
       go_at_call 52
       refine (HCK.out _ (rd_grown hr blr)).mono ?_
       rintro r w1 ⟨rfl, hb1⟩
       replace hL := kp hb1; (repeat rw [World.size_alloc] at hL); have hF := hL; (repeat unfold Loc at hF)
       go_wp2_with fail
       go_at_call 53
       refine (HWIN.out _).mono ?_
       rintro r w2 ⟨rfl, hb2⟩
       clear hF
       replace hL := kp hb2; (repeat rw [World.size_alloc] at hL); have hF := hL; (repeat unfold Loc at hF)
       go_wp2_with fail
       go_at_call 38
       refine (HAOF.out _).mono ?_
       rintro r w5 ⟨rfl, hb5⟩
       have hsz2 : w.heap.size + 1 < w2.heap.size := by omega
       clear hF
       replace hL := kp hb5; (repeat rw [World.size_alloc] at hL); have hF := hL; (repeat unfold Loc at hF)
       go_wp2_with fail
       have hl6 : Loc ((((w5.setCell ⟨w2.heap.size, 7, none⟩ (.int .i64 1)).setCell ⟨w2.heap.size, 8, none⟩ (.int .i64 rv)).setCell ⟨w2.heap.size, 9, none⟩ (.int .i64 rv)).setCell ⟨w2.heap.size, 10, none⟩ (.int .i64 rv)) [(w2.heap.size, [.int .i64 rk, .int .i64 0, .int .i64 0, .int .i64 0, .int .i64 0, .int .i64 0, .int .i64 0, .int .i64 1, .int .i64 rv, .int .i64 rv, .int .i64 rv]), (w.heap.size + 1, [.int .i64 rk, .int .i64 rt, .int .i64 rv]), (w.heap.size, [.int .u8 wk, .int .i64 ws, .int .i64 we])] := ((((hL.put (by simp; omega) 7 _ (by simp)).put (by simp; omega) 8 _ (by simp)).put (by simp; omega) 9 _ (by simp)).put (by simp; omega) 10 _ (by simp))
       have hb6 : Below w.heap.size w ((((w5.setCell ⟨w2.heap.size, 7, none⟩ (.int .i64 1)).setCell ⟨w2.heap.size, 8, none⟩ (.int .i64 rv)).setCell ⟨w2.heap.size, 9, none⟩ (.int .i64 rv)).setCell ⟨w2.heap.size, 10, none⟩ (.int .i64 rv)) := blr
       obtain ⟨W6, hW6⟩ : ∃ W6, W6 = ((((w5.setCell ⟨w2.heap.size, 7, none⟩ (.int .i64 1)).setCell ⟨w2.heap.size, 8, none⟩ (.int .i64 rv)).setCell ⟨w2.heap.size, 9, none⟩ (.int .i64 rv)).setCell ⟨w2.heap.size, 10, none⟩ (.int .i64 rv)) := ⟨_, rfl⟩
       rw [← hW6] at hl6 hb6 ⊢
       obtain ⟨xb, hxb⟩ : ∃ xb, xb = w2.heap.size := ⟨_, rfl⟩
       rw [← hxb] at hl6 ⊢
       have hx1 : w.heap.size + 1 < xb := by rw [hxb]; exact hsz2
       clear hF hL
       clear hW6 hxb hsz2 hb5 hb2 hb1 w5 w2 w1
       go_at_call 54
       refine (enclone_any A c n l W6 HLN.out HZ.out (by omega) (rd_grown hr hb6)).mono ?_
       rintro r w7 ⟨v7, rfl, own7, hb7⟩
       have hl7 := hl6.below hb7
       have hb7' : Below w.heap.size w w7 := below_then hb6 hb7
       have hs6 := hl6.1
       have hlt7 := fun k hk => World.ownsRow.lt own7 k hk
       have HLT7 := Lib.hid hlt7
       obtain ⟨B, hB⟩ : ∃ B, B = W6.heap.size := ⟨_, rfl⟩
       rw [← hB] at own7 HLT7 hs6
       have hBw : w.heap.size ≤ B := by rw [hB]; exact hb6.size
       have hB7 : B ≤ w7.heap.size := by rw [hB]; exact hb7.size
       have hF := hl7
       (repeat unfold Loc at hF)
       clear hb6 hb7 hl6 hlt7 hB W6
       go_wp2_with fail
       go_at_call 39
       refine (HSL.out _).mono ?_
       rintro r w8 ⟨v8, rfl, own8, hb8⟩
       have hl8 := Loc.below hb8 (l := [(xb, [.int .i64 rk, .int .i64 0, .int .i64 0, .int .i64 0, .int .i64 0, .int .i64 0, .int .i64 0, .int .i64 1, .int .i64 rv, .int .i64 rv, .int .i64 rv])]) ⟨hl7.1, hl7.2.1, hl7.2.2.1, trivial⟩
       have own78 := own7.below hb8
       have hb8' : Below w.heap.size w w8 := below_then hb7' hb8
       have hz8 : B ≤ w8.heap.size := Nat.le_trans hB7 hb8.size
       have hap8 : v8.ownBlock = none ∨ v8.ownBlock ≠ v7.ownBlock := by
        rcases hq : v8.ownBlock with _ | g
        ·exact .inl rfl
        ·refine .inr (fun e => ?_)
         have h1 := (HLT7.out g e.symm).2
         have h2 := (World.ownsRow.lt own8 g hq).1
         omega
       obtain ⟨A8, c8, rfl, -⟩ := own_shape_n own8 HM.out
       obtain ⟨B8, hB8⟩ : ∃ B8, B8 = w7.heap.size := ⟨_, rfl⟩
       rw [← hB8] at own8 hB7
       clear hF hl7 own7 hb7' hb8 HLT7 hB8
       clear w7
       go_wp2_with fail
       go_loopw [13, 93] (fun v i wr => ∃ (k : Nat) (lk : List En) (s e : Int), i = .int .i64 k ∧ k ≤ m ∧ foldW (putE false) (fun p => recE rk rv 1 p.1 p.2) (SP.take k) l = (lk, true) ∧ lk.length ≤ n + k ∧ SS lk ∧ (∀ y ∈ lk, enR y) ∧ Own enenc 11 wr B 62 v lk ∧ ((Value.slice A8 m c8).ownBlock = none ∨ (Value.slice A8 m c8).ownBlock ≠ v.ownBlock) ∧ Own senc 2 wr B8 59 (.slice A8 m c8) SP ∧ Loc wr [(xb, [.int .i64 rk, .int .i64 s, .int .i64 e, .int .i64 0, .int .i64 0, .int .i64 0, .int .i64 0, .int .i64 1, .int .i64 rv, .int .i64 rv, .int .i64 rv])] ∧ Below w.heap.size w wr ∧ B ≤ wr.heap.size) (fun _ i _ => m - (intOf i).toNat)
       case atStart => exact ⟨0, l, 0, 0, rfl, Nat.zero_le _, rfl, by rw [HLN.out]; omega, GSS.out, GR.out, own78, hap8, own8, hl8, hb8', hz8⟩
       case round =>
        obtain ⟨k, lk, s, e, rfl, hkm, hfold, hlen, hss, hR, howo, hap, how8, hlx, hb, hzB⟩ := hrel
        clear own78 hap8 own8 hl8 hb8' hz8
        have hF := hlx
        (repeat unfold Loc at hF)
        have HFO := Lib.hid hfold; have HSS := Lib.hid hss; have HR := Lib.hid hR; have HAP := Lib.hid hap
        clear hfold hss hR hap
        by_cases hlt : k < m
        ·obtain ⟨⟨p1, p2⟩, hp⟩ : ∃ p, SP[k]? = some p := ⟨_, List.getElem?_eq_getElem (by rw [HM.out]; exact hlt)⟩
         have hpp : p1 < p2 := HSP.out (p1, p2) (List.mem_of_getElem? hp)
         obtain ⟨g8, rfl⟩ : ∃ g, A8 = some ⟨g, 0, none⟩ := by
          obtain ⟨b', off', e', -, -⟩ := (Own.rd senc_len how8) (by rintro rfl; simp at hp)
          obtain ⟨A', c', hv, -, -, hA⟩ := how8.form
          injection hv with hv1
          subst hv1
          obtain ⟨g, hg, -⟩ := hA _ e'
          exact ⟨g, by rw [e', hg]⟩
         obtain ⟨q1, q2, hg8⟩ := own_sp how8 hp
         dsimp only at q1 q2
         have hne8 : g8 ≠ xb ∨ g8 = xb := by omega
         have d1 : decide ((k : Int) < (m : Int)) = true := by simp; omega
         have d1' : decide (k < m) = true := by simp [hlt]
         have k1 : (0 : Int) ≤ (k : Int) := by omega
         have k2 : (k : Int) < (m : Int) := by omega
         have e1 : IntKind.i64.wrap ((k : Int) + 1) = (k : Int) + 1 := IntWalk.i64_in _ (by omega)
         have hnx : foldW (putE false) (fun p => recE rk rv 1 p.1 p.2) (SP.take (k + 1)) l = ((putE false lk ⟨rk, p1, p2, 0, 0, 0, 0, 1, rv, rv, rv⟩).1, (putE false lk ⟨rk, p1, p2, 0, 0, 0, 0, 1, rv, rv, rv⟩).2) := by
          have h := foldW_snoc (f := putE false) (mk := fun p => recE rk rv 1 p.1 p.2) (l := l) hp
          rw [HFO.out] at h
          simp only [Bool.true_and] at h
          exact h
         have hxg : xb ≠ g8 := by
          have := (World.ownsRow.lt how8 g8 rfl).1
          omega
         have HNX := Lib.hid hnx
         clear hnx hp hlt hne8
         go_wp2_with fail
         have hl9 : Loc ((wr.setCell ⟨xb, 1, none⟩ (.int .i64 p1)).setCell ⟨xb, 2, none⟩ (.int .i64 p2)) [(xb, [.int .i64 rk, .int .i64 p1, .int .i64 p2, .int .i64 0, .int .i64 0, .int .i64 0, .int .i64 0, .int .i64 1, .int .i64 rv, .int .i64 rv, .int .i64 rv])] := ((hlx.put (by simp) 1 _ (by simp)).put (by simp) 2 _ (by simp))
         have hb9 : Below w.heap.size w ((wr.setCell ⟨xb, 1, none⟩ (.int .i64 p1)).setCell ⟨xb, 2, none⟩ (.int .i64 p2)) := blr
         have hpg := putW_grown xb 1 [.int .i64 p1, .int .i64 p2] 0 wr
         have own9 : Own enenc 11 ((wr.setCell ⟨xb, 1, none⟩ (.int .i64 p1)).setCell ⟨xb, 2, none⟩ (.int .i64 p2)) B 62 _ lk := howo.grown hpg (own_apart howo hs6)
         have how9 : Own senc 2 ((wr.setCell ⟨xb, 1, none⟩ (.int .i64 p1)).setCell ⟨xb, 2, none⟩ (.int .i64 p2)) B8 59 (.slice (some ⟨g8, 0, none⟩) m c8) SP := how8.grown hpg (.inr (fun e => by have e' : some g8 = some xb := e; injection e' with e'; exact hxg e'.symm))
         have hz9 : B ≤ ((wr.setCell ⟨xb, 1, none⟩ (.int .i64 p1)).setCell ⟨xb, 2, none⟩ (.int .i64 p2)).heap.size := by simpa [World.setCell] using hzB
         have hxR : enR ⟨rk, p1, p2, 0, 0, 0, 0, 1, rv, rv, rv⟩ := by have h := recE_R (k := rk) (v := rv) (side := 1) hpp; rw [recE_1] at h; exact h
         have hxf : fitE ⟨rk, p1, p2, 0, 0, 0, 0, 1, rv, rv, rv⟩ = true := by have h := recE_fit rk rv 1 p1 p2; rw [recE_1] at h; exact h
         go_at_call 57
         refine (put_any _ B lk.length lk ⟨rk, p1, p2, 0, 0, 0, 0, 1, rv, rv, rv⟩ _ rfl (by omega) own9 hz9 HSS.out (fun y hy => HR.out y hy) hxR hxf).mono ?_
         rintro r w10 ⟨v10, err, l10, rfl, own10, hg10, hf10, hres10⟩
         have hlt9 := fun j hj => World.ownsRow.lt own9 j hj
         have hb10 : Below w.heap.size w w10 := hb9.grown hg10 hb9.size (fun j hj => by have := (hlt9 j hj).1; omega)
         have hl10 := Loc.grown hg10 (fun q hq => by simp at hq; subst hq; intro e; have := (hlt9 _ e.symm).1; simp at this; omega) hl9
         have how10 := how9.grown hg10 HAP.out
         have hz10 := Nat.le_trans hz9 hg10.size
         have hap10 : (Value.slice (some ⟨g8, 0, none⟩) m c8).ownBlock = none ∨ (Value.slice (some ⟨g8, 0, none⟩) m c8).ownBlock ≠ v10.ownBlock := by
          refine .inr (fun e => ?_)
          rcases hf10 with h | h
          ·rcases HAP.out with h' | h'
           ·cases h'
           ·exact h' (e.trans h)
          ·have h1 := h g8 e.symm
           have h2 : g8 < ((wr.setCell ⟨xb, 1, none⟩ (.int .i64 p1)).setCell ⟨xb, 2, none⟩ (.int .i64 p2)).heap.size := by simpa [World.setCell] using hg8
           omega
         have HRES10 := Lib.hid hres10; have HAP10 := Lib.hid hap10
         clear hF hlx hl9 hb9 hpg own9 how9 hz9 hlt9 hg10 hf10 how8 howo hb hzB hap10 q1 q2 hg8 HAP
         rcases HRES10.out with ⟨rfl, h1, h2⟩ | ⟨rfl, h2⟩
         ·obtain ⟨hR10, hlen10⟩ := putE_R hxR HR.out h2
          obtain ⟨hss10, -⟩ := putE_ss (sess := false) (x := ⟨rk, p1, p2, 0, 0, 0, 0, 1, rv, rv, rv⟩) HSS.out
          rw [← h1] at hR10 hlen10 hss10
          have hnx2 := HNX.out
          rw [h2, ← h1] at hnx2
          have HNX2 := Lib.hid hnx2; have HR10 := Lib.hid hR10; have HSS10 := Lib.hid hss10
          clear h1 h2 hR10 hss10 hnx2 HRES10
          go_wp2
          go_roundw
          case rel => exact ⟨k + 1, l10, p1, p2, by go_num, by omega, HNX2.out, by omega, HSS10.out, HR10.out, own10, HAP10.out, how10, hl10, hb10, hz10⟩
          case measure => simp [intOf]; omega
         ·have hnx2 := HNX.out
          rw [h2] at hnx2
          have hff := foldW_false (f := putE false) (mk := fun p => recE rk rv 1 p.1 p.2) (ss := SP) (l := l) (k := k + 1) (by rw [hnx2])
          have hres2 := HRES.out
          rw [hff] at hres2
          simp only [Bool.false_and, Bool.false_eq_true, if_false] at hres2
          have HRES2 := Lib.hid hres2
          clear h2 hnx2 hff hres2 HRES10
          go_wp2
          go_ret2
          exact AddP.no HRES2.out hb10
        ·obtain rfl : k = m := by omega
         have d1 : decide ((k : Int) < (k : Int)) = false := by simp
         have d1' : decide (k < k) = false := by simp
         have hfo := HFO.out
         rw [List.take_of_length_le (by rw [HM.out]; exact Nat.le_refl _)] at hfo
         have hres2 := HRES.out
         rw [hfo] at hres2
         simp only [Bool.true_and] at hres2
         obtain ⟨q, hq⟩ : ∃ q, q = lk.length := ⟨_, rfl⟩
         rw [← hq] at hres2 hlen
         obtain ⟨A10, c10, rfl, -⟩ := own_shape_n howo hq.symm
         clear hfo hF hlt
         by_cases h9 : 4000 < q
         ·have b1 : decide ((4000 : Int) < (q : Int)) = true := by simp; omega
          have b1' : decide (4000 < q) = true := by simp [h9]
          rw [if_neg (by simp; omega)] at hres2
          have HRES2 := Lib.hid hres2
          clear hres2 hq
          go_wp2
          go_ret2
          exact AddP.no HRES2.out hb
         ·have b1 : decide ((4000 : Int) < (q : Int)) = false := by simp; omega
          have b1' : decide (4000 < q) = false := by simp [h9]
          rw [if_pos (by simp; omega)] at hres2
          have HRES2 := Lib.hid hres2
          clear hres2 hq
          go_wp2
          go_ret2
          exact AddP.yes HRES2.out (howo.mono hBw) hb
  ·have hwok : ¬ wok wk ws we := by
    intro h
    have := HD.out
    unfold wchk at this
    rw [if_pos h] at this
    omega
   have hD8 : D = 8 := by rw [HD.out]; unfold wchk; rw [if_neg hwok]
   have hres : addE l wk ws we rk rt rv side = ([], 8) := by unfold addE; rw [if_neg (by rw [← HE0.out]; simp [h1]), if_pos hwok]
   have HRES := Lib.hid hres
   subst h1 hD8
   clear hres hwok h2
   go_enter Tryz.func24, Tryz.ntmps24
   go_wp2_with fail
   go_at_call 52
   refine (HCK.out _ (rd_grown hr blr)).mono ?_
   rintro r w1 ⟨rfl, hb1⟩
   replace hL := kp hb1; (repeat rw [World.size_alloc] at hL); have hF := hL; (repeat unfold Loc at hF)
   go_wp2_with fail
   go_at_call 53
   refine (HWIN.out _).mono ?_
   rintro r w2 ⟨rfl, hb2⟩
   clear hF
   replace hL := kp hb2; (repeat rw [World.size_alloc] at hL); have hF := hL; (repeat unfold Loc at hF)
   go_wp2
   go_ret2
   exact AddP.no HRES.out blr
 ·have hres : addE l wk ws we rk rt rv side = ([], E) := by unfold addE; rw [← HE0.out, if_pos h1]
  have HRES := Lib.hid hres
  have d0 : (E != 0) = true := by simp [h1]
  clear hres h1
  go_enter Tryz.func24, Tryz.ntmps24
  go_wp2_with fail
  go_at_call 52
  refine (HCK.out _ (rd_grown hr blr)).mono ?_
  rintro r w1 ⟨rfl, hb1⟩
  replace hL := kp hb1; (repeat rw [World.size_alloc] at hL); have hF := hL; (repeat unfold Loc at hF)
  go_wp2
  go_ret2
  exact AddP.no HRES.out blr
/-- The counts of a list together. -/
def tot1 (l : List En) : Int := (l.map En.c1).sum
def tot2 (l : List En) : Int := (l.map En.c2).sum
theorem tot_cons (x : En) (l : List En) : tot1 (x :: l) = x.c1 + tot1 l ∧ tot2 (x :: l) = x.c2 + tot2 l := by simp [tot1, tot2]
theorem tot_app (l m : List En) : tot1 (l ++ m) = tot1 l + tot1 m ∧ tot2 (l ++ m) = tot2 l + tot2 m := by simp [tot1, tot2]
theorem tot_perm {l m : List En} (h : l.Perm m) : tot1 l = tot1 m ∧ tot2 l = tot2 m := by
 induction h with
 | nil => exact ⟨rfl, rfl⟩
 | cons x _ ih => rw [(tot_cons _ _).1, (tot_cons _ _).1, (tot_cons _ _).2, (tot_cons _ _).2, ih.1, ih.2]; exact ⟨rfl, rfl⟩
 | swap x y l => simp only [(tot_cons _ _).1, (tot_cons _ _).2]; omega
 | trans _ _ h1 h2 => exact ⟨h1.1.trans h2.1, h1.2.trans h2.2⟩
theorem enw_c {x : En} (h : enw x) : 0 ≤ x.c1 ∧ 0 ≤ x.c2 := by
 have h1 := h.2.1
 have h2 := h.2.2
 unfold Acc.wk at h1 h2
 have e1 : x.a.c = x.c1 := rfl
 have e2 : x.b.c = x.c2 := rfl
 omega
theorem tot_nonneg : ∀ {l : List En}, (∀ y ∈ l, enw y) → 0 ≤ tot1 l ∧ 0 ≤ tot2 l
 | [], _ => by simp [tot1, tot2]
 | x :: l, h => by
  have h1 := tot_nonneg (l := l) (fun y hy => h y (by simp [hy]))
  have h2 := enw_c (h x (by simp))
  rw [(tot_cons _ _).1, (tot_cons _ _).2]
  omega
theorem foldJ_tot {x : En} (hx : enw x) : ∀ {ys : List En}, (∀ y ∈ ys, enw y) → (ys.foldl enJ x).c1 = x.c1 + tot1 ys ∧ (ys.foldl enJ x).c2 = x.c2 + tot2 ys := by
 intro ys
 induction ys generalizing x with
 | nil => intro _; simp [tot1, tot2]
 | cons y ys ih =>
  intro h
  have hy := h y (by simp)
  have h1 := ih (enw_J hx hy) (fun z hz => h z (by simp [hz]))
  have e1 : (enJ x y).c1 = (aboth x.a y.a).c := rfl
  have e2 : (enJ x y).c2 = (aboth x.b y.b).c := rfl
  rw [e1, e2, both_c hx.2.1 hy.2.1, both_c hx.2.2 hy.2.2] at h1
  have e3 : x.a.c = x.c1 := rfl
  have e4 : x.b.c = x.c2 := rfl
  have e5 : y.a.c = y.c1 := rfl
  have e6 : y.b.c = y.c2 := rfl
  rw [(tot_cons _ _).1, (tot_cons _ _).2]
  simp only [List.foldl_cons]
  omega
theorem meets_tot {sess : Bool} {l l1 : List En} {x x1 : En} (hx : enw x) (hl : ∀ y ∈ l, enw y) (h : Meets (hitE sess) l x l1 x1) : tot1 l1 + x1.c1 = tot1 l + x.c1 ∧ tot2 l1 + x1.c2 = tot2 l + x.c2 := by
 obtain ⟨ys, h1, _, h3, _, _⟩ := h.facts
 have hin : ∀ y ∈ ys, y ∈ l := fun y hy => h1.mem_iff.2 (List.mem_append_left _ hy)
 have hb := foldJ_tot hx (fun y hy => hl y (hin y hy))
 have hp := tot_perm h1
 rw [(tot_app _ _).1, (tot_app _ _).2] at hp
 rw [← h3] at hb
 omega
/-- What is taken in stays below the counts together. -/
theorem meets_le {sess : Bool} {l l1 : List En} {x x1 : En} (hx : enw x) (hl : ∀ y ∈ l, enw y) (h : Meets (hitE sess) l x l1 x1) : x1.c1 ≤ tot1 l + x.c1 ∧ x1.c2 ≤ tot2 l + x.c2 := by
 have h1 := meets_tot hx hl h
 obtain ⟨_, _, h2, _⟩ := h.facts
 have h3 := tot_nonneg (l := l1) (fun y hy => hl y (h2.subset hy))
 omega
theorem withE_tot {sess : Bool} {l : List En} {x : En} (hx : enw x) (hl : ∀ y ∈ l, enw y) : tot1 (withE sess l x).1 = tot1 l + x.c1 ∧ tot2 (withE sess l x).1 = tot2 l + x.c2 ∧ (withE sess l x).1.length ≤ l.length + 1 := by
 have hm := absorb_meets (hitE sess) l.length l x
 have h1 := meets_tot hx hl hm
 obtain ⟨_, _, h2, _⟩ := hm.facts
 have h3 := h2.length_le
 unfold withE
 simp only [(tot_app _ _).1, (tot_app _ _).2, (tot_cons _ _).1, (tot_cons _ _).2, List.length_append, List.length_singleton]
 have e1 : tot1 ([] : List En) = 0 := rfl
 have e2 : tot2 ([] : List En) = 0 := rfl
 omega
theorem recE_c (k v side s e : Int) : 0 ≤ (recE k v side s e).c1 ∧ (recE k v side s e).c1 ≤ 1 ∧ 0 ≤ (recE k v side s e).c2 ∧ (recE k v side s e).c2 ≤ 1 := by
 unfold recE
 split <;> simp [mkEn, accV, acc0]
end Go.Proofs.YtnljihjhmgpcoaaGreat
