/- The walk of SessionOrder (chapter 15). No condition. -/
import Derived.Test.YtffehibdeogjeaaSessHelp
import Derived.Test.YtffehibdeogjeaaSessPlain2
import Derived.Test.YtffehibdeogjeaaSessTells
namespace Go.Proofs.Ytffehibdeogjeaa
open Go.RowKit

theorem drop_at {α : Type} {l : List α} {k : Nat} {x : α} (h : l[k]? = some x) : l.drop k = x :: l.drop (k + 1) := by
  have hk : k < l.length := (List.getElem?_eq_some_iff.1 h).1
  rw [List.getElem?_eq_getElem hk] at h
  rw [List.drop_eq_getElem_cons hk, Option.some.inj h]
theorem rd_pre {α : Type} {enc : α → List Value} {sz : Nat} {w : World} {B : Nat} {A : Option Addr} {l : List α} (h : Rd enc sz w B A l) (j : Nat) : Rd enc sz w B A (l.take j) := fun hn => by
  obtain ⟨b, off, e, hb, hc⟩ := h (by rintro rfl; simp at hn)
  exact ⟨b, off, e, hb, fun k x hx => hc k x (by rw [List.getElem?_take] at hx; split at hx; exact hx; cases hx)⟩
theorem add_one (b off k : Nat) : (⟨b, off, none⟩ : Addr).add (k * 1) = ⟨b, off + k, none⟩ := by unfold Addr.add; split <;> simp_all

set_option maxHeartbeats 8000000 in
set_option maxRecDepth 100000 in
theorem sessionOrder_yes (w : World) (A : Option Addr) (c n : Nat) (ts : List Int) (hn : ts.length = n) (lc : n ≤ c) (lr : Rd ienc 1 w w.heap.size A ts) (g : Int) (cut : Nat) (hcut : cut ≤ n)
    (h60 : n ≤ 60) (hall : ∀ t ∈ ts, sck t g = 0) (h0 : sck 0 g = 0) :
    Calls Try.prog 18 #[.slice A n c, .int .i64 g, .int .i64 cut] w fun r w' => r = .returned (.bool true) ∧ Below w.heap.size w w' := by
  have hfe := fun W (h : Rd ienc 1 W W.heap.size A ts) => slfew_any A c n ts g W hn h
  rw [show sfewB ts g = true from decide_eq_true ⟨by omega, hall, h0⟩] at hfe
  have hof := fun W (h : Rd ienc 1 W W.heap.size A ts) => sof_any A c n ts g W hn h
  rw [sof_few h0 (by omega) hall] at hof
  have hall1 : ∀ t ∈ ts.take cut, sck t g = 0 := fun t ht => hall t (List.mem_of_mem_take ht)
  have hall2 : ∀ t ∈ ts.drop cut, sck t g = 0 := fun t ht => hall t (List.mem_of_mem_drop ht)
  have hof1 := fun (B : Option Addr) (d : Nat) W (h : Rd ienc 1 W W.heap.size B (ts.take cut)) => sof_any B d cut (ts.take cut) g W (by rw [List.length_take]; omega) h
  rw [sof_few h0 (by rw [List.length_take]; omega) hall1] at hof1
  have hof2 := fun (B : Option Addr) (d m : Nat) (hm : m = n - cut) W (h : Rd ienc 1 W W.heap.size B (ts.drop cut)) => sof_any B d m (ts.drop cut) g W (by rw [List.length_drop, hm, hn]) h
  rw [sof_few h0 (by rw [List.length_drop]; omega) hall2] at hof2
  obtain ⟨S, hS⟩ : ∃ S, S = canon (stimes g ts) := ⟨_, rfl⟩
  obtain ⟨S1, hS1⟩ : ∃ S, S = canon (stimes g (ts.take cut)) := ⟨_, rfl⟩
  obtain ⟨S2, hS2⟩ : ∃ S, S = canon (stimes g (ts.drop cut)) := ⟨_, rfl⟩
  have hm1 : smerge S1 S2 = (S, 0) := by
    rw [hS1, hS2, hS]
    exact smerge_few (by rw [List.length_take, List.length_drop]; omega) hall1 hall2 (by rw [List.take_append_drop])
  have hm2 : smerge S2 S1 = (S, 0) := by
    rw [hS1, hS2, hS]
    exact smerge_few (by rw [List.length_take, List.length_drop]; omega) hall2 hall1 (by have := List.perm_append_comm (l₁ := ts.drop cut) (l₂ := ts.take cut); rwa [List.take_append_drop] at this)
  rw [← hS] at hof
  rw [← hS1] at hof1
  rw [← hS2] at hof2
  obtain ⟨m, hm⟩ : ∃ m, S.length = m := ⟨_, rfl⟩
  obtain ⟨p1, hp1⟩ : ∃ m, S1.length = m := ⟨_, rfl⟩
  obtain ⟨p2, hp2⟩ : ∃ m, S2.length = m := ⟨_, rfl⟩
  have l0 : m ≤ 60 := by have := canon_len (stimes g ts); rw [stimes_len, ← hS, hm] at this; omega
  have l1 : p1 ≤ 60 := by have := canon_len (stimes g (ts.take cut)); rw [stimes_len, ← hS1, hp1, List.length_take] at this; omega
  have l2 : p2 ≤ 60 := by have := canon_len (stimes g (ts.drop cut)); rw [stimes_len, ← hS2, hp2, List.length_drop] at this; omega
  have hmg1 := fun A1 c1 z1 A2 c2 z2 W h1 h2 => smerge_any A1 A2 c1 c2 p1 p2 S1 S2 W hp1 hp2 z1 z2 (by omega) (by omega) h1 h2
  have hmg2 := fun A1 c1 z1 A2 c2 z2 W h1 h2 => smerge_any A2 A1 c2 c1 p2 p1 S2 S1 W hp2 hp1 z2 z1 (by omega) (by omega) h2 h1
  rw [hm1] at hmg1
  rw [hm2] at hmg2
  have HFE := Lib.hid hfe; have HOF := Lib.hid hof; have HOF1 := Lib.hid hof1; have HOF2 := Lib.hid hof2; have HMG1 := Lib.hid hmg1; have HMG2 := Lib.hid hmg2
  have HN := Lib.hid hn; have HM := Lib.hid hm; have HP1 := Lib.hid hp1; have HP2 := Lib.hid hp2; have HALL := Lib.hid hall; have HS := Lib.hid hS
  clear hfe hof hof1 hof2 hmg1 hmg2 hm1 hm2 hn hm hp1 hp2 hall hall1 hall2 hS hS1 hS2 h0
  have hL : Loc w [] := trivial
  have d1 : decide ((cut : Int) < 0) = false := by simp
  have d2 : decide ((n : Int) < (cut : Int)) = false := by simp; omega
  have d2' : decide (n < cut) = false := by simp; omega
  have d3 : IntKind.i64.wrap ((n : Int) - 1) = (n : Int) - 1 := IntWalk.i64_in _ (by omega)
  go_enter Try.func18, Try.ntmps18
  go_wp2_with fail
  go_at_call 57
  refine (salive_any _).mono ?_
  rintro r w1 ⟨rfl, hb1⟩
  go_wp2_with fail
  go_at_call 58
  refine (HFE.out _ (rd_grown lr (by repeat (first | with_reducible exact Below.refl _ _ | with_reducible assumption | (with_reducible exact Env.below (by assumption)) | (with_reducible refine below_new ?_ _) | (with_reducible refine below_drew ?_) | (with_reducible refine below_drewN ?_ _) | (with_reducible refine below_put ?_ ?_ _; rotate_left 1; (dsimp only; omega)) | (with_reducible refine below_then ?_ (by assumption)))))).mono ?_
  rintro r w2 ⟨rfl, hb2⟩
  go_wp2_with fail
  go_at_call 59
  refine (HOF.out _ (rd_grown lr (by repeat (first | with_reducible exact Below.refl _ _ | with_reducible assumption | (with_reducible exact Env.below (by assumption)) | (with_reducible refine below_new ?_ _) | (with_reducible refine below_drew ?_) | (with_reducible refine below_drewN ?_ _) | (with_reducible refine below_put ?_ ?_ _; rotate_left 1; (dsimp only; omega)) | (with_reducible refine below_then ?_ (by assumption)))))).mono ?_
  rintro r w3 ⟨v3, rfl, own3, hb3⟩
  obtain ⟨A3, e3, rfl, -, z3⟩ := own_shape_z own3 HM.out
  have hb03 : Below w.heap.size w w3 := (by repeat (first | with_reducible exact Below.refl _ _ | with_reducible assumption | (with_reducible exact Env.below (by assumption)) | (with_reducible refine below_new ?_ _) | (with_reducible refine below_drew ?_) | (with_reducible refine below_drewN ?_ _) | (with_reducible refine below_put ?_ ?_ _; rotate_left 1; (dsimp only; omega)) | (with_reducible refine below_then ?_ (by assumption))))
  clear hb1 hb2 hb3
  go_wp2_with fail
  go_loopw [10, 11] (fun l i wr => ∃ (k ml : Nat) (ii : Int) (Al : Option Addr) (cl : Nat), k ≤ n ∧ ii = (k : Int) - 1 ∧ i = .int .i64 ii ∧ l = .slice Al ml cl ∧ (Al = none → cl = 0) ∧ (canon (stimes g (ts.drop k))).length = ml ∧ Own senc 2 wr w.heap.size 32 l (canon (stimes g (ts.drop k))) ∧ Below w3.heap.size w3 wr) (fun _ i _ => (intOf i + 1).toNat)
  case atStart =>
    have e : ts.drop n = [] := List.drop_of_length_le (by rw [HN.out]; exact Nat.le_refl _)
    have e2 : canon (stimes g []) = [] := List.eq_nil_of_length_eq_zero (by have := canon_len (stimes g []); simp [stimes] at this ⊢; simpa using this)
    exact ⟨n, 0, (n : Int) - 1, none, 0, Nat.le_refl _, rfl, rfl, rfl, fun _ => rfl, by rw [e, e2]; rfl, by rw [e, e2]; exact Own.nil _ _ _, Below.refl _ _⟩
  case round =>
    obtain ⟨k, ml, ii, Al, cl, hk, hii, rfl, rfl, zl, hml, ownl, hb⟩ := hrel
    have HML := Lib.hid hml
    clear hml
    by_cases hk0 : 0 < k
    · obtain ⟨j, rfl⟩ : ∃ j, k = j + 1 := ⟨k - 1, by omega⟩
      obtain rfl : ii = (j : Int) := by omega
      clear hii
      obtain ⟨t, ht⟩ : ∃ t, ts[j]? = some t := ⟨_, List.getElem?_eq_getElem (by rw [HN.out]; omega)⟩
      have hall := HALL.out
      have hadd := fun W h => sadd_any Al cl ml (canon (stimes g (ts.drop (j + 1)))) t g W HML.out zl (by have := canon_len (stimes g (ts.drop (j + 1))); rw [stimes_len, List.length_drop, HML.out, HN.out] at this; omega) h
      rw [sadd_few (by rw [List.length_drop, HN.out]; omega) (fun u hu => hall u (List.mem_of_mem_drop hu)) (hall t (List.mem_of_getElem? ht)), ← drop_at ht] at hadd
      obtain ⟨m', hm'⟩ : ∃ m, (canon (stimes g (ts.drop j))).length = m := ⟨_, rfl⟩
      obtain ⟨b, off, rfl, hbB, f1⟩ := int_at lr ht
      have g1 : wr.cell? ⟨b, off + j, none⟩ = some (.int .i64 t) := ((below_then hb03 hb).cell (p := ⟨b, off + j, none⟩) hbB).trans f1
      have HA := Lib.hid hadd; have HM' := Lib.hid hm'
      have e1 : decide ((0 : Int) ≤ (j : Int)) = true := by simp
      have i1 : (0 : Int) ≤ (j : Int) := by omega
      have i2 : (j : Int) < (n : Int) := by omega
      have e2 : IntKind.i64.wrap ((j : Int) - 1) = (j : Int) - 1 := IntWalk.i64_in _ (by omega)
      clear hall hadd ht hm' f1 zl
      go_wp2_with fail
      go_at_call 62
      refine (HA.out _ (Own.rd senc_len ownl)).mono ?_
      rintro r w4 ⟨v4, rfl, own4, hb4⟩
      obtain ⟨A4, c4, rfl, -, z4⟩ := own_shape_z own4 HM'.out
      go_wp2
      go_roundw
      case rel => exact ⟨j, m', (j : Int) - 1, A4, c4, by omega, rfl, rfl, rfl, z4, HM'.out, own4.mono (Nat.le_trans hb03.size hb.size), below_then hb hb4⟩
      case measure => simp [intOf]
    · obtain rfl : k = 0 := by omega
      obtain rfl : ii = -1 := by omega
      clear hii hk0
      have hb0 : Below w.heap.size w wr := below_then hb03 hb
      have hS' : canon (stimes g (ts.drop 0)) = S := by rw [List.drop_zero, HS.out]
      rw [hS'] at ownl
      obtain rfl : ml = m := by rw [← HM.out, ← HML.out, hS']
      clear hS'
      have lr' := rd_grown lr hb0
      have rd3 := rd_grown (Own.rd senc_len own3) hb
      have rdl := Own.rd senc_len ownl
      clear own3 ownl hb03 hb z3
      go_wp2_with fail
      go_at_call 59
      refine (HOF1.out A c _ (rd_pre lr' _)).mono ?_
      rintro r w4 ⟨v4, rfl, own4, hb4⟩
      obtain ⟨A4, c4, rfl, -, z4⟩ := own_shape_z own4 HP1.out
      have hcutr := Rd.cut (rd_grown lr' hb4) cut ts.length (by rw [HN.out]; exact hcut) (Nat.le_refl _) (by rw [HN.out]; exact lc)
      rw [List.take_length] at hcutr
      go_wp2_with fail
      all_goals
        first
          | (have hce : c = cut := by first | assumption | (symm; assumption)
             rw [if_pos hce] at hcutr
             refine (HOF2.out _ _ _ rfl _ hcutr).mono ?_
             clear hce)
          | (have hce : ¬ c = cut := by first | assumption | (intro e; apply ‹¬ cut = c›; exact e.symm)
             rw [if_neg hce, Nat.mul_one] at hcutr
             refine (HOF2.out _ _ _ rfl _ hcutr).mono ?_
             clear hce)
        rintro r w5 ⟨v5, rfl, own5, hb5⟩
        obtain ⟨A5, c5, rfl, -, z5⟩ := own_shape_z own5 HP2.out
        clear hcutr
        go_wp2_with fail
        go_at_call 67
        refine (HMG1.out A4 c4 z4 A5 c5 z5 _ (rd_grown (Own.rd senc_len own4) (by repeat (first | with_reducible exact Below.refl _ _ | with_reducible assumption | (with_reducible exact Env.below (by assumption)) | (with_reducible refine below_new ?_ _) | (with_reducible refine below_drew ?_) | (with_reducible refine below_drewN ?_ _) | (with_reducible refine below_put ?_ ?_ _; rotate_left 1; (dsimp only; omega)) | (with_reducible refine below_then ?_ (by assumption))))) (rd_grown (Own.rd senc_len own5) (by repeat (first | with_reducible exact Below.refl _ _ | with_reducible assumption | (with_reducible exact Env.below (by assumption)) | (with_reducible refine below_new ?_ _) | (with_reducible refine below_drew ?_) | (with_reducible refine below_drewN ?_ _) | (with_reducible refine below_put ?_ ?_ _; rotate_left 1; (dsimp only; omega)) | (with_reducible refine below_then ?_ (by assumption)))))).mono ?_
        rintro r w6 ⟨v6, rfl, own6, hb6⟩
        obtain ⟨A6, c6, rfl, -, z6⟩ := own_shape_z own6 HM.out
        go_wp2_with fail
        go_at_call 67
        refine (HMG2.out A4 c4 z4 A5 c5 z5 _ (rd_grown (Own.rd senc_len own4) (by repeat (first | with_reducible exact Below.refl _ _ | with_reducible assumption | (with_reducible exact Env.below (by assumption)) | (with_reducible refine below_new ?_ _) | (with_reducible refine below_drew ?_) | (with_reducible refine below_drewN ?_ _) | (with_reducible refine below_put ?_ ?_ _; rotate_left 1; (dsimp only; omega)) | (with_reducible refine below_then ?_ (by assumption))))) (rd_grown (Own.rd senc_len own5) (by repeat (first | with_reducible exact Below.refl _ _ | with_reducible assumption | (with_reducible exact Env.below (by assumption)) | (with_reducible refine below_new ?_ _) | (with_reducible refine below_drew ?_) | (with_reducible refine below_drewN ?_ _) | (with_reducible refine below_put ?_ ?_ _; rotate_left 1; (dsimp only; omega)) | (with_reducible refine below_then ?_ (by assumption)))))).mono ?_
        rintro r w7 ⟨v7, rfl, own7, hb7⟩
        obtain ⟨A7, c7, rfl, -, z7⟩ := own_shape_z own7 HM.out
        go_wp2_with fail
        go_at_call 63
        refine (ssame_yes _ _ _ _ _ _ S S _ (rd_grown rdl (by repeat (first | with_reducible exact Below.refl _ _ | with_reducible assumption | (with_reducible exact Env.below (by assumption)) | (with_reducible refine below_new ?_ _) | (with_reducible refine below_drew ?_) | (with_reducible refine below_drewN ?_ _) | (with_reducible refine below_put ?_ ?_ _; rotate_left 1; (dsimp only; omega)) | (with_reducible refine below_then ?_ (by assumption))))) (rd_grown rd3 (by repeat (first | with_reducible exact Below.refl _ _ | with_reducible assumption | (with_reducible exact Env.below (by assumption)) | (with_reducible refine below_new ?_ _) | (with_reducible refine below_drew ?_) | (with_reducible refine below_drewN ?_ _) | (with_reducible refine below_put ?_ ?_ _; rotate_left 1; (dsimp only; omega)) | (with_reducible refine below_then ?_ (by assumption))))) HM.out HM.out rfl (by omega)).mono ?_
        rintro r w8 ⟨rfl, hb8⟩
        go_wp2_with fail
        go_at_call 63
        refine (ssame_yes _ _ _ _ _ _ S S _ (rd_grown (Own.rd senc_len own6) (by repeat (first | with_reducible exact Below.refl _ _ | with_reducible assumption | (with_reducible exact Env.below (by assumption)) | (with_reducible refine below_new ?_ _) | (with_reducible refine below_drew ?_) | (with_reducible refine below_drewN ?_ _) | (with_reducible refine below_put ?_ ?_ _; rotate_left 1; (dsimp only; omega)) | (with_reducible refine below_then ?_ (by assumption))))) (rd_grown rd3 (by repeat (first | with_reducible exact Below.refl _ _ | with_reducible assumption | (with_reducible exact Env.below (by assumption)) | (with_reducible refine below_new ?_ _) | (with_reducible refine below_drew ?_) | (with_reducible refine below_drewN ?_ _) | (with_reducible refine below_put ?_ ?_ _; rotate_left 1; (dsimp only; omega)) | (with_reducible refine below_then ?_ (by assumption))))) HM.out HM.out rfl (by omega)).mono ?_
        rintro r w9 ⟨rfl, hb9⟩
        go_wp2_with fail
        go_at_call 63
        refine (ssame_yes _ _ _ _ _ _ S S _ (rd_grown (Own.rd senc_len own7) (by repeat (first | with_reducible exact Below.refl _ _ | with_reducible assumption | (with_reducible exact Env.below (by assumption)) | (with_reducible refine below_new ?_ _) | (with_reducible refine below_drew ?_) | (with_reducible refine below_drewN ?_ _) | (with_reducible refine below_put ?_ ?_ _; rotate_left 1; (dsimp only; omega)) | (with_reducible refine below_then ?_ (by assumption))))) (rd_grown rd3 (by repeat (first | with_reducible exact Below.refl _ _ | with_reducible assumption | (with_reducible exact Env.below (by assumption)) | (with_reducible refine below_new ?_ _) | (with_reducible refine below_drew ?_) | (with_reducible refine below_drewN ?_ _) | (with_reducible refine below_put ?_ ?_ _; rotate_left 1; (dsimp only; omega)) | (with_reducible refine below_then ?_ (by assumption))))) HM.out HM.out rfl (by omega)).mono ?_
        rintro r w10 ⟨rfl, hb10⟩
        go_wp2
        go_ret
        exact ⟨rfl, (by repeat (first | with_reducible exact Below.refl _ _ | with_reducible assumption | (with_reducible exact Env.below (by assumption)) | (with_reducible refine below_new ?_ _) | (with_reducible refine below_drew ?_) | (with_reducible refine below_drewN ?_ _) | (with_reducible refine below_put ?_ ?_ _; rotate_left 1; (dsimp only; omega)) | (with_reducible refine below_then ?_ (by assumption))))⟩

set_option maxHeartbeats 8000000 in
set_option maxRecDepth 100000 in
theorem sessionOrder_walk {w : World} (A : Option Addr) (c : Nat) (ts : List Int) (_lc : ts.length ≤ c) (_lm : c ≤ maxLen) (_lw : ∀ x ∈ ts, i64ok x) (lr : Rd ienc 1 w w.heap.size A ts)
    (g : Int) (_wg : (Lit.int .i64 g).wf = true) (cut : Int) (_wc : (Lit.int .i64 cut).wf = true) :
    Calls Try.prog 18 #[.slice A ts.length c, .int .i64 g, .int .i64 cut] w fun r w' => r = .returned (.bool true) ∧ Below w.heap.size w w' := by
  obtain ⟨n, hn⟩ : ∃ n, ts.length = n := ⟨_, rfl⟩
  rw [hn] at _lc ⊢
  by_cases hf : ts.length ≤ 60 ∧ (∀ t ∈ ts, sck t g = 0) ∧ sck 0 g = 0
  · have hfe := fun W (h : Rd ienc 1 W W.heap.size A ts) => slfew_any A c n ts g W hn h
    rw [show sfewB ts g = true from decide_eq_true hf] at hfe
    have HFE := Lib.hid hfe
    have early : (cut < 0 ∨ (n : Int) < cut) → Calls Try.prog 18 #[.slice A n c, .int .i64 g, .int .i64 cut] w fun r w' => r = .returned (.bool true) ∧ Below w.heap.size w w' := by
      intro hcut
      clear hfe hf hn
      by_cases h1 : cut < 0
      · have d1 : decide (cut < 0) = true := decide_eq_true h1
        clear hcut
        go_enter Try.func18, Try.ntmps18
        go_wp2_with fail
        go_at_call 57
        refine (salive_any _).mono ?_
        rintro r w1 ⟨rfl, hb1⟩
        go_wp2_with fail
        go_at_call 58
        refine (HFE.out _ (rd_grown lr (by repeat (first | with_reducible exact Below.refl _ _ | with_reducible assumption | (with_reducible exact Env.below (by assumption)) | (with_reducible refine below_new ?_ _) | (with_reducible refine below_drew ?_) | (with_reducible refine below_drewN ?_ _) | (with_reducible refine below_put ?_ ?_ _; rotate_left 1; (dsimp only; omega)) | (with_reducible refine below_then ?_ (by assumption)))))).mono ?_
        rintro r w2 ⟨rfl, hb2⟩
        go_wp2
        go_ret
        exact ⟨rfl, (by repeat (first | with_reducible exact Below.refl _ _ | with_reducible assumption | (with_reducible exact Env.below (by assumption)) | (with_reducible refine below_new ?_ _) | (with_reducible refine below_drew ?_) | (with_reducible refine below_drewN ?_ _) | (with_reducible refine below_put ?_ ?_ _; rotate_left 1; (dsimp only; omega)) | (with_reducible refine below_then ?_ (by assumption))))⟩
      · have h2 : (n : Int) < cut := by omega
        have d1 : decide (cut < 0) = false := decide_eq_false h1
        have d2 : decide ((n : Int) < cut) = true := decide_eq_true h2
        clear hcut
        go_enter Try.func18, Try.ntmps18
        go_wp2_with fail
        go_at_call 57
        refine (salive_any _).mono ?_
        rintro r w1 ⟨rfl, hb1⟩
        go_wp2_with fail
        go_at_call 58
        refine (HFE.out _ (rd_grown lr (by repeat (first | with_reducible exact Below.refl _ _ | with_reducible assumption | (with_reducible exact Env.below (by assumption)) | (with_reducible refine below_new ?_ _) | (with_reducible refine below_drew ?_) | (with_reducible refine below_drewN ?_ _) | (with_reducible refine below_put ?_ ?_ _; rotate_left 1; (dsimp only; omega)) | (with_reducible refine below_then ?_ (by assumption)))))).mono ?_
        rintro r w2 ⟨rfl, hb2⟩
        go_wp2
        go_ret
        exact ⟨rfl, (by repeat (first | with_reducible exact Below.refl _ _ | with_reducible assumption | (with_reducible exact Env.below (by assumption)) | (with_reducible refine below_new ?_ _) | (with_reducible refine below_drew ?_) | (with_reducible refine below_drewN ?_ _) | (with_reducible refine below_put ?_ ?_ _; rotate_left 1; (dsimp only; omega)) | (with_reducible refine below_then ?_ (by assumption))))⟩
    by_cases hcut : cut < 0 ∨ (n : Int) < cut
    · exact early hcut
    · obtain ⟨k, rfl⟩ : ∃ k : Nat, cut = k := ⟨cut.toNat, by omega⟩
      exact sessionOrder_yes w A c n ts hn _lc lr g k (by omega) (by omega) hf.2.1 hf.2.2
  · have hfe := fun W (h : Rd ienc 1 W W.heap.size A ts) => slfew_any A c n ts g W hn h
    rw [show sfewB ts g = false from decide_eq_false hf] at hfe
    have HFE := Lib.hid hfe
    clear hfe hf hn
    go_enter Try.func18, Try.ntmps18
    go_wp2_with fail
    go_at_call 57
    refine (salive_any _).mono ?_
    rintro r w1 ⟨rfl, hb1⟩
    go_wp2_with fail
    go_at_call 58
    refine (HFE.out _ (rd_grown lr (by repeat (first | with_reducible exact Below.refl _ _ | with_reducible assumption | (with_reducible exact Env.below (by assumption)) | (with_reducible refine below_new ?_ _) | (with_reducible refine below_drew ?_) | (with_reducible refine below_drewN ?_ _) | (with_reducible refine below_put ?_ ?_ _; rotate_left 1; (dsimp only; omega)) | (with_reducible refine below_then ?_ (by assumption)))))).mono ?_
    rintro r w2 ⟨rfl, hb2⟩
    go_wp2
    go_ret
    exact ⟨rfl, (by repeat (first | with_reducible exact Below.refl _ _ | with_reducible assumption | (with_reducible exact Env.below (by assumption)) | (with_reducible refine below_new ?_ _) | (with_reducible refine below_drew ?_) | (with_reducible refine below_drewN ?_ _) | (with_reducible refine below_put ?_ ?_ _; rotate_left 1; (dsimp only; omega)) | (with_reducible refine below_then ?_ (by assumption))))⟩
end Go.Proofs.Ytffehibdeogjeaa
