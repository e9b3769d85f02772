/- The walk of StoreKeys: a record changes entries of its key alone. No condition. -/
import Derived.Test.YtbbdepeifdbbdaaStoreKeysP
import Derived.Test.YtbbdepeifdbbdaaStoreAlive
import Derived.Test.YtbbdepeifdbbdaaStoreTells
namespace Go.Proofs.Ytbbdepeifdbbdaa
open Go.RowKit Go.ChangeShapes Go.WideShapes Go.ChangeAt Go.Deep

def neK (rk : Int) (y : En) : Bool := y.k != rk
def ownK (rk rt : Int) (y : En) : Bool := y.k == rk && (decide (y.s ≤ rt) && decide (rt < y.e))
theorem any_take {α : Type} (p : α → Bool) {l : List α} {k : Nat} {x : α} (h : l[k]? = some x) : (l.take (k + 1)).any p = ((l.take k).any p || p x) := by
  rw [List.take_add_one, h]
  simp
set_option maxHeartbeats 16000000 in
set_option maxRecDepth 100000 in
theorem storeKeys_walk {w : World} (A : Option Addr) (c : Nat) (l : List En) (_lc : l.length ≤ c) (_lm : c ≤ maxLen) (_lw : ∀ x ∈ l, enany x) (lr : Rd enenc 11 w w.heap.size A l) (ln : A = none → c = 0)
    (wk : Int) (_wwk : (Lit.int .u8 wk).wf = true) (ws : Int) (_wws : (Lit.int .i64 ws).wf = true) (we : Int) (wwe : (Lit.int .i64 we).wf = true)
    (rk : Int) (_wrk : (Lit.int .i64 rk).wf = true) (rt : Int) (_wrt : (Lit.int .i64 rt).wf = true) (rv : Int) (_wrv : (Lit.int .i64 rv).wf = true)
    (side : Int) (_wsd : (Lit.int .i64 side).wf = true) :
    Calls Try.prog 14 #[.slice A l.length c, .agg #[.int .u8 wk, .int .i64 ws, .int .i64 we], .agg #[.int .i64 rk, .int .i64 rt, .int .i64 rv], .int .i64 side] w fun r w' => r = .returned (.bool true) ∧ Below w.heap.size w w' := by
  obtain ⟨i0, hi0, hz0, hz1, hz2⟩ := info_parts en_info
  obtain ⟨n, hn⟩ : ∃ n, l.length = n := ⟨_, rfl⟩
  rw [hn]
  obtain ⟨G, hG⟩ : ∃ G, G = greatE n := ⟨_, rfl⟩
  have g1 := fun W => great17_any A n c W
  rw [← hG] at g1
  have HG1 := Lib.hid g1
  clear g1
  have hl2 : Loc ((w.alloc (.cells #[.int .u8 wk, .int .i64 ws, .int .i64 we] 23)).alloc (.cells #[.int .i64 rk, .int .i64 rt, .int .i64 rv] 31)) [(w.heap.size + 1, [.int .i64 rk, .int .i64 rt, .int .i64 rv]), (w.heap.size, [.int .u8 wk, .int .i64 ws, .int .i64 we])] := by
    have h := ((Loc.nil w).new [.int .u8 wk, .int .i64 ws, .int .i64 we] 23).new [.int .i64 rk, .int .i64 rt, .int .i64 rv] 31
    rw [World.size_alloc] at h
    exact h
  have hb2 : Below w.heap.size w ((w.alloc (.cells #[.int .u8 wk, .int .i64 ws, .int .i64 we] 23)).alloc (.cells #[.int .i64 rk, .int .i64 rt, .int .i64 rv] 31)) := (by repeat (first | with_reducible exact Below.refl _ _ | with_reducible assumption | (with_reducible exact Env.below (by assumption)) | (with_reducible refine below_new ?_ _) | (with_reducible refine below_drew ?_) | (with_reducible refine below_drewN ?_ _) | (with_reducible refine below_put ?_ ?_ _; rotate_left 1; (dsimp only; omega)) | (with_reducible refine below_then ?_ (by assumption))))
  cases G with
  | true =>
    clear hG
    go_enter Try.func14, Try.ntmps14
    go_wp2_with fail
    go_at_call 45
    refine (alive17 _).mono ?_
    rintro r w1 ⟨rfl, hb1⟩
    go_wp2_with fail
    go_at_call 40
    refine (HG1.out _).mono ?_
    rintro r w1 ⟨rfl, rfl⟩
    go_wp2
    go_ret
    exact ⟨rfl, below_then hb2 hb1⟩
  | false =>
    have hn4 : n ≤ 4002 := by unfold greatE at hG; have := of_decide_eq_false hG.symm; omega
    have HN := Lib.hid hn
    obtain ⟨C, hC⟩ : ∃ C, C = enchk l := ⟨_, rfl⟩
    have c2 := fun A c W (h : Rd enenc 11 W W.heap.size A l) => rstorecheck_any A c n l W hn (by omega) h
    rw [← hC] at c2
    have HC2 := Lib.hid c2
    clear c2 hG
    by_cases hC0 : C = 0
    · subst hC0
      obtain ⟨E, hE⟩ : ∃ E, E = (addE l wk ws we rk rt rv side).2 := ⟨_, rfl⟩
      obtain ⟨L, hLL⟩ : ∃ L, L = (addE l wk ws we rk rt rv side).1 := ⟨_, rfl⟩
      have hLlen : L.length ≤ 4000 := by rw [hLL]; exact addE_len _ _ _ _ _ _ _ _
      have a1 := fun A c W hz (h : Rd enenc 11 W W.heap.size A l) => add_any A c n l wk ws we rk rt rv side wwe W hn hz (by omega) h
      unfold AddP at a1
      rw [← hE, ← hLL] at a1
      obtain ⟨m, hm⟩ : ∃ m, L.length = m := ⟨_, rfl⟩
      rw [hm] at hLlen
      have HA1 := Lib.hid a1; have HM := Lib.hid hm; have HLN := Lib.hid ln
      by_cases hE0 : E = 0
      · have hfacts := add_facts hC.symm (show addE l wk ws we rk rt rv side = (L, 0) from Prod.ext hLL.symm (by rw [← hE]; exact hE0))
        obtain ⟨f1, f2, x0, f3, f4, f5, f6⟩ := hfacts
        have hown : L.any (ownK rk rt) = true := List.any_eq_true.2 ⟨x0, f3, by unfold ownK; simp [f4, f5, f6]⟩
        have hne : L.filter (neK rk) = l.filter (neK rk) := f2
        have c3 := fun A c W (h : Rd enenc 11 W W.heap.size A L) => storecheck_any A c m L W hm (by omega) h
        rw [f1] at c3
        have HC3 := Lib.hid c3; have HOWN := Lib.hid hown; have HNE := Lib.hid hne
        subst hE0
        clear f1 f2 f3 f4 f5 f6 c3 hown hne hE hLL hC hm ln hn a1
        go_enter Try.func14, Try.ntmps14
        go_wp2_with fail
        go_at_call 45
        refine (alive17 _).mono ?_
        rintro r w1 ⟨rfl, hb1⟩
        go_wp2_with fail
        go_at_call 40
        refine (HG1.out _).mono ?_
        rintro r w1 ⟨rfl, rfl⟩
        have hb01 := below_then hb2 hb1
        have hl1 := hl2.below hb1
        clear hl2 hb2 hb1
        go_wp2_with fail
        go_at_call 44
        refine (HC2.out A c w1 (rd_grown lr hb01)).mono ?_
        rintro r w2 ⟨rfl, hb2⟩
        have hb02 := below_then hb01 hb2
        have hl2 := hl1.below hb2
        have hF := hl2
        (repeat unfold Loc at hF)
        go_wp2_with fail
        go_at_call 19
        refine (HA1.out A c w2 HLN.out (rd_grown lr hb02)).mono ?_
        rintro r w3 ⟨v3, rfl, own3, hb3⟩
        obtain ⟨A3, c3, rfl, -, z3⟩ := own_shape_z own3 HM.out
        have rd3 := Own.rd enenc_len own3
        have hl3 := hl2.below hb3
        have hb03 := below_then hb02 hb3
        have lr3 := rd_grown lr hb03
        clear hF hl1 hl2 hb01 hb2 hb02 hb3 own3 w1 w2
        go_wp2_with fail
        go_loopw [12, 14] (fun pv iv wr => ∃ (k : Nat), iv = .int .i64 k ∧ k ≤ n ∧ Own enenc 11 wr w3.heap.size 43 pv ((l.take k).filter (neK rk)) ∧ Loc wr [(w.heap.size + 1, [.int .i64 rk, .int .i64 rt, .int .i64 rv])] ∧ Below w3.heap.size w3 wr) (fun _ iv _ => n - (intOf iv).toNat)
        case atStart => exact ⟨0, rfl, Nat.zero_le _, Own.nil _ _ _, ⟨hl3.1, hl3.2.1, hl3.2.2.1, trivial⟩, Below.refl _ _⟩
        case round =>
          obtain ⟨k, rfl, hk, own, hl, hb⟩ := hrel
          have hF := hl
          (repeat unfold Loc at hF)
          have hlf : ((l.take k).filter (neK rk)).length ≤ n := Nat.le_trans (List.length_filter_le _ _) (by simp; omega)
          by_cases hlt : k < n
          · obtain ⟨x, hx⟩ : ∃ x, l[k]? = some x := ⟨_, List.getElem?_eq_getElem (by rw [HN.out]; exact hlt)⟩
            have hs := filt_snoc (neK rk) hx
            obtain ⟨b, off, rfl, hbb, f0, f1, f2, f3, f4, f5, f6, f7, f8, f9, f10⟩ := en_cells (rd_grown lr3 hb) hx
            have d1 : decide ((k : Int) < (n : Int)) = true := by simp; omega
            have d1' : decide (k < n) = true := by simp [hlt]
            have k1 : (0 : Int) ≤ (k : Int) := by omega
            have k2 : (k : Int) < (n : Int) := by omega
            have e1 : IntKind.i64.wrap ((k : Int) + 1) = (k : Int) + 1 := IntWalk.i64_in _ (by omega)
            clear hx hlt
            have hwsz : w.heap.size + 1 < w3.heap.size := hl3.1
            cases hq : (x.k != rk) with
            | true =>
              have hq' : neK rk x = true := hq
              rw [hq', if_pos rfl] at hs
              have HS := Lib.hid hs
              clear hs hq'
              go_wp2_with fail
              go_quiet (fail)
              go_wp2_with (at_builtin; refine wpList_append_fs rfl _ _ 27 rfl w3.heap.size 43 i0 (.agg #[.int .i64 0, .int .i64 0, .int .i64 0, .int .i64 0, .int .i64 0, .int .i64 0, .int .i64 0, .int .i64 0, .int .i64 0, .int .i64 0, .int .i64 0]) 11 88 Try.underlying27 hi0 hz0 hz1 hz2 rfl (by decide) enenc enenc_len _ _ x rfl (Own.alloc (w := wr.drewN nq) own (.cells (enenc x).toArray 43)) ⟨wr.heap.size, 0, none⟩ 1 rfl (en_new (wr.drewN nq) x 43 wr.heap.size rfl) (enenc_one [x]) (by unfold maxLen; omega) (by omega) (by rw [World.size_alloc]; exact Nat.le_succ_of_le hb.size) ?_; intro v' w7 own7 hgr7 hsf)
              have hbW2 : Below wr.heap.size wr ((wr.drewN nq).alloc (.cells (enenc x).toArray 43)) := below_new (below_drewN (Below.refl _ _) _) _
              have hlu := fun j hj => (World.ownsRow.lt own j hj).1
              have hl7 : Loc w7 [(w.heap.size + 1, [.int .i64 rk, .int .i64 rt, .int .i64 rv])] := Loc.grown hgr7 (fun q hq => by simp at hq; subst hq; intro e; have := hlu _ e.symm; simp at this; omega) (hl.below hbW2)
              have hb7 : Below w3.heap.size w3 w7 := (hb.trans (hbW2.mono hb.size)).grown hgr7 (Nat.le_trans hb.size hbW2.size) hlu
              rw [← HS.out] at own7
              clear hgr7 hsf hlu hbW2 hb hl own hF
              go_wp2
              go_roundw
              case rel => exact ⟨k + 1, by go_num, by omega, own7, hl7, hb7⟩
              case measure => simp [intOf]; omega
            | false =>
              have hq' : neK rk x = false := hq
              rw [hq', if_neg (by simp), List.append_nil] at hs
              have HS := Lib.hid hs
              clear hs hq'
              go_wp2_with fail
              go_quiet (fail)
              go_wp2
              go_roundw
              case rel => exact ⟨k + 1, by go_num, by omega, by rw [HS.out]; exact own, hl.below (below_drewN (Below.refl _ _) _), below_drewN hb _⟩
              case measure => simp [intOf]; omega
          · obtain rfl : k = n := by omega
            have d1 : decide ((k : Int) < (k : Int)) = false := by simp
            have d1' : decide (k < k) = false := by simp
            rw [List.take_of_length_le (by rw [HN.out]; exact Nat.le_refl _)] at own
            have lr4 := rd_grown lr3 hb
            have hb04 := below_then hb03 hb
            have hbr : w.heap.size + 1 < wr.heap.size := hl.1
            obtain ⟨w4, hw4⟩ : ∃ w4, w4 = wr := ⟨_, rfl⟩
            have rd4 := rd_grown rd3 hb
            subst hw4
            clear hlt hb hlf lr3 hl3 rd3 hF
            have ownp := own
            have hlp := hl
            clear own hl
            go_wp2_with fail
            go_loopw [13, 15, 16] (fun qv ow iv wq => ∃ (k : Nat), iv = .int .i64 k ∧ k ≤ m ∧ ow = .bool ((L.take k).any (ownK rk rt)) ∧ Own enenc 11 wq w4.heap.size 43 qv ((L.take k).filter (neK rk)) ∧ Loc wq [(w.heap.size + 1, [.int .i64 rk, .int .i64 rt, .int .i64 rv])] ∧ Below w4.heap.size w4 wq) (fun _ _ iv _ => m - (intOf iv).toNat)
            case atStart => exact ⟨0, rfl, Nat.zero_le _, rfl, Own.nil _ _ _, hlp, Below.refl _ _⟩
            case round =>
              clear hlp
              obtain ⟨j, rfl, hj, rfl, own, hl, hb⟩ := hrel
              have hF := hl
              (repeat unfold Loc at hF)
              have hlf : ((L.take j).filter (neK rk)).length ≤ m := Nat.le_trans (List.length_filter_le _ _) (by simp; omega)
              obtain ⟨O, hO⟩ : ∃ O, O = (L.take j).any (ownK rk rt) := ⟨_, rfl⟩
              rw [← hO]
              by_cases hlt : j < m
              · obtain ⟨y, hy⟩ : ∃ y, L[j]? = some y := ⟨_, List.getElem?_eq_getElem (by rw [HM.out]; exact hlt)⟩
                have hs := filt_snoc (neK rk) hy
                have ha := any_take (ownK rk rt) hy
                rw [← hO] at ha
                obtain ⟨b, off, rfl, hb4, g0, -⟩ := en_cells rd4 hy
                obtain ⟨b', off', he', hbb, f0, f1, f2, f3, f4, f5, f6, f7, f8, f9, f10⟩ := en_cells (rd_grown rd4 hb) hy
                obtain ⟨rfl, rfl⟩ : b = b' ∧ off = off' := by simpa using he'
                have G0 := Lib.hid g0
                clear g0 he'
                have d1 : decide ((j : Int) < (m : Int)) = true := by simp; omega
                have d1' : decide (j < m) = true := by simp [hlt]
                have k1 : (0 : Int) ≤ (j : Int) := by omega
                have k2 : (j : Int) < (m : Int) := by omega
                have e1 : IntKind.i64.wrap ((j : Int) + 1) = (j : Int) + 1 := IntWalk.i64_in _ (by omega)
                clear hy hlt hO
                cases hq : (y.k != rk) with
                | true =>
                  have hq' : neK rk y = true := hq
                  have hq2 : (y.k == rk) = false := by simpa using hq
                  have ho' : ownK rk rt y = false := by unfold ownK; rw [hq2]; rfl
                  rw [hq', if_pos rfl] at hs
                  rw [ho', Bool.or_false] at ha
                  have HS := Lib.hid hs; have HA := Lib.hid ha
                  clear hs hq' ha ho'
                  cases O with
                  | false =>
                    go_wp2_with fail
                    go_quiet (fail)
                    go_wp2_with (at_builtin; refine wpList_append_fs rfl _ _ 27 rfl w4.heap.size 43 i0 (.agg #[.int .i64 0, .int .i64 0, .int .i64 0, .int .i64 0, .int .i64 0, .int .i64 0, .int .i64 0, .int .i64 0, .int .i64 0, .int .i64 0, .int .i64 0]) 11 88 Try.underlying27 hi0 hz0 hz1 hz2 rfl (by decide) enenc enenc_len _ _ y rfl (Own.alloc (w := wr.drewN nq) own (.cells (enenc y).toArray 43)) ⟨wr.heap.size, 0, none⟩ 1 rfl (en_new (wr.drewN nq) y 43 wr.heap.size rfl) (enenc_one [y]) (by unfold maxLen; omega) (by omega) (by rw [World.size_alloc]; exact Nat.le_succ_of_le hb.size) ?_; intro v' w7 own7 hgr7 hsf)
                    have hbW2 : Below wr.heap.size wr ((wr.drewN nq).alloc (.cells (enenc y).toArray 43)) := below_new (below_drewN (Below.refl _ _) _) _
                    have hlu := fun j hj => (World.ownsRow.lt own j hj).1
                    have hl7 : Loc w7 [(w.heap.size + 1, [.int .i64 rk, .int .i64 rt, .int .i64 rv])] := Loc.grown hgr7 (fun q hq => by simp at hq; subst hq; intro e; have := hlu _ e.symm; simp at this; omega) (hl.below hbW2)
                    have hb7 : Below w4.heap.size w4 w7 := (hb.trans (hbW2.mono hb.size)).grown hgr7 (Nat.le_trans hb.size hbW2.size) hlu
                    have hc7 : w7.cell? ⟨b, off + j * 11, none⟩ = some (.int .i64 y.k) := (hb7.cell (p := ⟨b, off + j * 11, none⟩) hb4).trans G0.out
                    rw [← HS.out] at own7
                    clear hgr7 hsf hlu hbW2 hb hl own hF
                    have hF := hl7
                    (repeat unfold Loc at hF)
                    go_wp2_with fail
                    go_quiet (fail)
                    go_wp2
                    go_roundw
                    case rel => exact ⟨j + 1, by go_num, by omega, by rw [HA.out], own7, hl7.below (below_drewN (Below.refl _ _) _), below_drewN hb7 _⟩
                    case measure => simp [intOf]; omega
                  | true =>
                    go_wp2_with fail
                    go_quiet (fail)
                    go_wp2_with (at_builtin; refine wpList_append_fs rfl _ _ 27 rfl w4.heap.size 43 i0 (.agg #[.int .i64 0, .int .i64 0, .int .i64 0, .int .i64 0, .int .i64 0, .int .i64 0, .int .i64 0, .int .i64 0, .int .i64 0, .int .i64 0, .int .i64 0]) 11 88 Try.underlying27 hi0 hz0 hz1 hz2 rfl (by decide) enenc enenc_len _ _ y rfl (Own.alloc (w := wr.drewN nq) own (.cells (enenc y).toArray 43)) ⟨wr.heap.size, 0, none⟩ 1 rfl (en_new (wr.drewN nq) y 43 wr.heap.size rfl) (enenc_one [y]) (by unfold maxLen; omega) (by omega) (by rw [World.size_alloc]; exact Nat.le_succ_of_le hb.size) ?_; intro v' w7 own7 hgr7 hsf)
                    have hbW2 : Below wr.heap.size wr ((wr.drewN nq).alloc (.cells (enenc y).toArray 43)) := below_new (below_drewN (Below.refl _ _) _) _
                    have hlu := fun j hj => (World.ownsRow.lt own j hj).1
                    have hl7 : Loc w7 [(w.heap.size + 1, [.int .i64 rk, .int .i64 rt, .int .i64 rv])] := Loc.grown hgr7 (fun q hq => by simp at hq; subst hq; intro e; have := hlu _ e.symm; simp at this; omega) (hl.below hbW2)
                    have hb7 : Below w4.heap.size w4 w7 := (hb.trans (hbW2.mono hb.size)).grown hgr7 (Nat.le_trans hb.size hbW2.size) hlu
                    have hc7 : w7.cell? ⟨b, off + j * 11, none⟩ = some (.int .i64 y.k) := (hb7.cell (p := ⟨b, off + j * 11, none⟩) hb4).trans G0.out
                    rw [← HS.out] at own7
                    clear hgr7 hsf hlu hbW2 hb hl own hF
                    have hF := hl7
                    (repeat unfold Loc at hF)
                    go_wp2_with fail
                    go_quiet (fail)
                    go_wp2
                    go_roundw
                    case rel => exact ⟨j + 1, by go_num, by omega, by rw [HA.out], own7, hl7.below (below_drewN (Below.refl _ _) _), below_drewN hb7 _⟩
                    case measure => simp [intOf]; omega
                | false =>
                  have hq' : neK rk y = false := hq
                  have hq2 : (y.k == rk) = true := by simpa using hq
                  have ho' : ownK rk rt y = (decide (y.s ≤ rt) && decide (rt < y.e)) := by unfold ownK; rw [hq2]; rfl
                  rw [hq', if_neg (by simp), List.append_nil] at hs
                  rw [ho'] at ha
                  cases hs1 : decide (y.s ≤ rt) with
                  | false =>
                    rw [hs1] at ha
                    simp only [Bool.false_and, Bool.or_false] at ha
                    have HS := Lib.hid hs; have HA := Lib.hid ha
                    clear hs hq' ha ho'
                    have hs1' : ¬ y.s ≤ rt := by simpa using hs1
                    cases O with
                    | false =>
                      go_wp2_with fail
                      go_quiet (fail)
                      go_wp2_with fail
                      go_quiet (fail)
                      go_wp2
                      go_roundw
                      case rel => exact ⟨j + 1, by go_num, by omega, by rw [HA.out], by rw [HS.out]; exact own, hl.below (below_drewN (Below.refl _ _) _), below_drewN hb _⟩
                      case measure => simp [intOf]; omega
                    | true =>
                      go_wp2_with fail
                      go_quiet (fail)
                      go_wp2_with fail
                      go_quiet (fail)
                      go_wp2
                      go_roundw
                      case rel => exact ⟨j + 1, by go_num, by omega, by rw [HA.out], by rw [HS.out]; exact own, hl.below (below_drewN (Below.refl _ _) _), below_drewN hb _⟩
                      case measure => simp [intOf]; omega
                  | true =>
                    have hs1' : y.s ≤ rt := by simpa using hs1
                    cases hs2 : decide (rt < y.e) with
                    | false =>
                      rw [hs1, hs2] at ha
                      simp only [Bool.and_false, Bool.or_false] at ha
                      have HS := Lib.hid hs; have HA := Lib.hid ha
                      clear hs hq' ha ho'
                      have hs2' : ¬ rt < y.e := by simpa using hs2
                      cases O with
                      | false =>
                        go_wp2_with fail
                        go_quiet (fail)
                        go_wp2_with fail
                        go_quiet (fail)
                        go_wp2
                        go_roundw
                        case rel => exact ⟨j + 1, by go_num, by omega, by rw [HA.out], by rw [HS.out]; exact own, hl.below (below_drewN (Below.refl _ _) _), below_drewN hb _⟩
                        case measure => simp [intOf]; omega
                      | true =>
                        go_wp2_with fail
                        go_quiet (fail)
                        go_wp2_with fail
                        go_quiet (fail)
                        go_wp2
                        go_roundw
                        case rel => exact ⟨j + 1, by go_num, by omega, by rw [HA.out], by rw [HS.out]; exact own, hl.below (below_drewN (Below.refl _ _) _), below_drewN hb _⟩
                        case measure => simp [intOf]; omega
                    | true =>
                      rw [hs1, hs2] at ha
                      simp only [Bool.and_self, Bool.or_true] at ha
                      have HS := Lib.hid hs; have HA := Lib.hid ha
                      clear hs hq' ha ho'
                      have hs2' : rt < y.e := by simpa using hs2
                      cases O with
                      | false =>
                        go_wp2_with fail
                        go_quiet (fail)
                        go_wp2_with fail
                        go_quiet (fail)
                        go_wp2
                        go_roundw
                        case rel => exact ⟨j + 1, by go_num, by omega, by rw [HA.out], by rw [HS.out]; exact own, hl.below (below_drewN (Below.refl _ _) _), below_drewN hb _⟩
                        case measure => simp [intOf]; omega
                      | true =>
                        go_wp2_with fail
                        go_quiet (fail)
                        go_wp2_with fail
                        go_quiet (fail)
                        go_wp2
                        go_roundw
                        case rel => exact ⟨j + 1, by go_num, by omega, by rw [HA.out], by rw [HS.out]; exact own, hl.below (below_drewN (Below.refl _ _) _), below_drewN hb _⟩
                        case measure => simp [intOf]; omega
              · obtain rfl : j = m := by omega
                have d1 : decide ((j : Int) < (j : Int)) = false := by simp
                have d1' : decide (j < j) = false := by simp
                rw [List.take_of_length_le (by rw [HM.out]; exact Nat.le_refl _)] at own hO
                rw [HOWN.out] at hO
                subst hO
                rw [HNE.out] at own
                obtain ⟨q, hq⟩ : ∃ q, (l.filter (neK rk)).length = q := ⟨_, rfl⟩
                have hqn : q ≤ 4002 := by rw [← hq]; exact Nat.le_trans (List.length_filter_le _ _) (by rw [HN.out]; omega)
                obtain ⟨A5, c5, rfl, -, z5⟩ := own_shape_z ownp hq
                obtain ⟨A6, c6, rfl, -, z6⟩ := own_shape_z own hq
                have rd5 := Own.rd enenc_len ownp
                have rd6 := Own.rd enenc_len own
                have HQ := Lib.hid hq
                clear hlt hF hl hq z5 z6
                go_wp2_with fail
                go_at_call 32
                refine (rsame_yes A5 A6 c5 c6 q _ wr HQ.out (by omega) (rd_grown rd5 hb) rd6).mono ?_
                rintro r w8 ⟨rfl, hb8⟩
                go_wp2_with fail
                go_at_call 43
                refine (HC3.out A3 c3 w8 (rd_grown rd4 (below_then hb hb8))).mono ?_
                rintro r w9 ⟨rfl, hb9⟩
                go_wp2
                go_ret
                exact ⟨rfl, below_then hb04 (below_then hb (below_then hb8 hb9))⟩
      · have hL0 : L = [] := by rw [hLL]; exact add_none (by rw [← hE]; exact hE0)
        have hm0 : m = 0 := by rw [← hm, hL0]; rfl
        have d0 : (E != 0) = true := by simp [hE0]
        subst hm0
        clear hE hLL hC hm ln hn a1 hL0 hE0
        go_enter Try.func14, Try.ntmps14
        go_wp2_with fail
        go_at_call 45
        refine (alive17 _).mono ?_
        rintro r w1 ⟨rfl, hb1⟩
        go_wp2_with fail
        go_at_call 40
        refine (HG1.out _).mono ?_
        rintro r w1 ⟨rfl, rfl⟩
        have hb01 := below_then hb2 hb1
        have hl1 := hl2.below hb1
        clear hl2 hb2 hb1
        go_wp2_with fail
        go_at_call 44
        refine (HC2.out A c w1 (rd_grown lr hb01)).mono ?_
        rintro r w2 ⟨rfl, hb2⟩
        have hb02 := below_then hb01 hb2
        have hl2 := hl1.below hb2
        have hF := hl2
        (repeat unfold Loc at hF)
        go_wp2_with fail
        go_at_call 19
        refine (HA1.out A c w2 HLN.out (rd_grown lr hb02)).mono ?_
        rintro r w3 ⟨v3, rfl, own3, hb3⟩
        obtain ⟨A3, c3, rfl, -, z3⟩ := own_shape_z own3 HM.out
        clear hF
        go_wp2
        go_ret
        exact ⟨rfl, below_then hb02 hb3⟩
    · have d0 : (C != 0) = true := by simp [hC0]
      clear hC hC0
      go_enter Try.func14, Try.ntmps14
      go_wp2_with fail
      go_at_call 45
      refine (alive17 _).mono ?_
      rintro r w1 ⟨rfl, hb1⟩
      go_wp2_with fail
      go_at_call 40
      refine (HG1.out _).mono ?_
      rintro r w1 ⟨rfl, rfl⟩
      have hb01 := below_then hb2 hb1
      go_wp2_with fail
      go_at_call 44
      refine (HC2.out A c w1 (rd_grown lr hb01)).mono ?_
      rintro r w2 ⟨rfl, hb2⟩
      go_wp2
      go_ret
      exact ⟨rfl, below_then hb01 hb2⟩
end Go.Proofs.Ytbbdepeifdbbdaa
