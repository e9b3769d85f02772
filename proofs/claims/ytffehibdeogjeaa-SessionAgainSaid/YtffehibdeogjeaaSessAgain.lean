/- The walk of SessionAgain (chapter 15). No condition. -/
import Derived.Test.YtffehibdeogjeaaSessHelp
import Derived.Test.YtffehibdeogjeaaSessPlain2
namespace Go.Proofs.Ytffehibdeogjeaa
open Go.RowKit

theorem pair_beq (x y : Int × Int) : (x == y) = (x.1 == y.1 && x.2 == y.2) := rfl
set_option maxHeartbeats 8000000 in
set_option maxRecDepth 100000 in
theorem sessionAgain_yes (w : World) (A : Option Addr) (c n : Nat) (ts : List Int) (hn : ts.length = n) (lr : Rd ienc 1 w w.heap.size A ts) (g t : Int)
    (h60 : n ≤ 60) (hall : ∀ t ∈ ts, sck t g = 0) (h0 : sck 0 g = 0) (ht0 : sck t g = 0) :
    Calls Try.prog 15 #[.slice A n c, .int .i64 g, .int .i64 t] w fun r w' => r = .returned (.bool true) ∧ Below w.heap.size w w' := by
  obtain ⟨hg1, hg2, ht1, ht2⟩ := sck_zero ht0
  have hfe := fun W (h : Rd ienc 1 W W.heap.size A ts) => slfew_any A c n ts g W hn h
  rw [show sfewB ts g = true from decide_eq_true ⟨by omega, hall, h0⟩] at hfe
  have hck := fun W => rscheck_any t g W
  rw [ht0] at hck
  have hof := fun W (h : Rd ienc 1 W W.heap.size A ts) => sof_any A c n ts g W hn h
  rw [sof_few h0 (by omega) hall] at hof
  obtain ⟨m, hm⟩ : ∃ m, (canon (stimes g ts)).length = m := ⟨_, rfl⟩
  obtain ⟨m', hm'⟩ : ∃ m, (canon (stimes g (t :: ts))).length = m := ⟨_, rfl⟩
  have l0 : m ≤ n := by have := canon_len (stimes g ts); rw [stimes_len, hm] at this; omega
  have l1 : m' ≤ n + 1 := by have := canon_len (stimes g (t :: ts)); rw [stimes_len, hm', List.length_cons] at this; omega
  have hadd := fun A' c' W z h => sadd_any A' c' m (canon (stimes g ts)) t g W hm z (by omega) h
  rw [sadd_few (by omega) hall ht0] at hadd
  have hbd : ∀ u ∈ ts, -1099511627776 ≤ u ∧ u ≤ 1099511627776 := fun u hu => by obtain ⟨-, -, h1, h2⟩ := sck_zero (hall u hu); exact ⟨h1, h2⟩
  have hwas : ts.any (· == t) = true → canon (stimes g ts) = canon (stimes g (t :: ts)) := fun h => by
    obtain ⟨u, hu, he⟩ := List.any_eq_true.1 h
    obtain rfl : u = t := by simpa using he
    exact (again_same hg1 hu).symm
  have hfar : ts.any (fun u => decide (u - t < g) && decide (t - u < g)) = false → (canon (stimes g (t :: ts))).any (· == (t, t + g)) = true ∧ m' = m + 1 := fun h => by
    have h2 : ∀ u ∈ ts, ¬ (u - t < g ∧ t - u < g) := fun u hu hn => by
      have := List.any_eq_false.1 h u hu
      simp [hn.1, hn.2] at this
    obtain ⟨h3, h4⟩ := again_far hg1 h2
    exact ⟨List.any_eq_true.2 ⟨_, h3, by simp⟩, by omega⟩
  have hnear : ts.any (fun u => decide (u - t < g) && decide (t - u < g)) = true → m' ≤ m := fun h => by
    obtain ⟨u, hu, he⟩ := List.any_eq_true.1 h
    simp only [Bool.and_eq_true, decide_eq_true_eq] at he
    have := again_near hg1 ⟨u, hu, he⟩
    omega
  obtain ⟨S, hS⟩ : ∃ S, S = canon (stimes g ts) := ⟨_, rfl⟩
  obtain ⟨M, hM⟩ : ∃ S, S = canon (stimes g (t :: ts)) := ⟨_, rfl⟩
  rw [← hS] at hof hm hadd hwas
  rw [← hM] at hm' hadd hwas hfar
  have HFE := Lib.hid hfe; have HOF := Lib.hid hof; have HADD := Lib.hid hadd; have HBD := Lib.hid hbd; have HCK := Lib.hid hck
  have HWAS := Lib.hid hwas; have HFAR := Lib.hid hfar; have HNEAR := Lib.hid hnear
  have HN := Lib.hid hn; have HM := Lib.hid hm; have HM' := Lib.hid hm'
  clear hfe hof hadd hbd hwas hfar hnear hn hm hm' hall hS hM h0 ht0 hck
  have hL : Loc w [] := trivial
  have etg : IntKind.i64.wrap (t + g) = t + g := IntWalk.i64_in _ (by omega)
  go_enter Try.func15, Try.ntmps15
  go_wp2_with fail
  go_at_call 57
  refine (salive_any _).mono ?_
  rintro r w1 ⟨rfl, hb1⟩
  go_wp2_with fail
  go_at_call 58
  refine (HFE.out _ (rd_grown lr (by repeat (first | with_reducible exact Below.refl _ _ | with_reducible assumption | (with_reducible exact Env.below (by assumption)) | (with_reducible refine below_new ?_ _) | (with_reducible refine below_drew ?_) | (with_reducible refine below_drewN ?_ _) | (with_reducible refine below_put ?_ ?_ _; rotate_left 1; (dsimp only; omega)) | (with_reducible refine below_then ?_ (by assumption)))))).mono ?_
  rintro r w2 ⟨rfl, hb2⟩
  go_wp2_with fail
  go_at_call 61
  refine (HCK.out _).mono ?_
  rintro r w2' ⟨rfl, rfl⟩
  go_wp2_with fail
  go_at_call 59
  refine (HOF.out _ (rd_grown lr (by repeat (first | with_reducible exact Below.refl _ _ | with_reducible assumption | (with_reducible exact Env.below (by assumption)) | (with_reducible refine below_new ?_ _) | (with_reducible refine below_drew ?_) | (with_reducible refine below_drewN ?_ _) | (with_reducible refine below_put ?_ ?_ _; rotate_left 1; (dsimp only; omega)) | (with_reducible refine below_then ?_ (by assumption)))))).mono ?_
  rintro r w3 ⟨v3, rfl, own3, hb3⟩
  obtain ⟨A3, e3, rfl, -, z3⟩ := own_shape_z own3 HM.out
  go_wp2_with fail
  go_at_call 62
  refine (HADD.out _ _ _ z3 (Own.rd senc_len own3)).mono ?_
  rintro r w4 ⟨v4, rfl, own4, hb4⟩
  obtain ⟨A4, e4, rfl, -, z4⟩ := own_shape_z own4 HM'.out
  have hb04 : Below w.heap.size w w4 := (by repeat (first | with_reducible exact Below.refl _ _ | with_reducible assumption | (with_reducible exact Env.below (by assumption)) | (with_reducible refine below_new ?_ _) | (with_reducible refine below_drew ?_) | (with_reducible refine below_drewN ?_ _) | (with_reducible refine below_put ?_ ?_ _; rotate_left 1; (dsimp only; omega)) | (with_reducible refine below_then ?_ (by assumption))))
  have rdS := rd_grown (Own.rd senc_len own3) hb4
  have rdM := Own.rd senc_len own4
  have rdT := rd_grown lr hb04
  clear hb1 hb2 hb3 hb4 own3 own4 z3 z4 lr hL
  go_wp2_with fail
  go_loopw [12, 13, 14] (fun ff nn jj wr => w4 = wr ∧ ∃ (j : Nat) (fb nb : Bool), j ≤ n ∧ jj = .int .i64 j ∧ ff = .bool fb ∧ nn = .bool nb ∧ (ts.take j).any (· == t) = fb ∧ (ts.take j).any (fun u => decide (u - t < g) && decide (t - u < g)) = nb) (fun _ _ jj _ => n - (intOf jj).toNat)
  case atStart => exact ⟨rfl, 0, false, false, Nat.zero_le _, rfl, rfl, rfl, rfl, rfl⟩
  case round =>
    obtain ⟨rfl, j, fb, nb, hj, rfl, rfl, rfl, hfb, hnb⟩ := hrel
    by_cases hjn : j < n
    · have dj : decide ((j : Int) < (n : Int)) = true := by simp; omega
      have dj' : decide (j < n) = true := by simp [hjn]
      obtain ⟨u, hu⟩ : ∃ t, ts[j]? = some t := ⟨_, List.getElem?_eq_getElem (by rw [HN.out]; omega)⟩
      have hsf := any_snoc (· == t) hu
      have hsn := any_snoc (fun u => decide (u - t < g) && decide (t - u < g)) hu
      rw [hfb] at hsf
      rw [hnb] at hsn
      obtain ⟨b, off, rfl, hbB, f1⟩ := int_at rdT hu
      obtain ⟨k1, k2⟩ := HBD.out u (List.mem_of_getElem? hu)
      have j1 : (0 : Int) ≤ (j : Int) := by omega
      have j2 : (j : Int) < (n : Int) := by omega
      have e1 : IntKind.i64.wrap ((j : Int) + 1) = (j : Int) + 1 := IntWalk.i64_in _ (by omega)
      have e2 : IntKind.i64.wrap (u - t) = u - t := IntWalk.i64_in _ (by omega)
      have e3 : IntKind.i64.wrap (t - u) = t - u := IntWalk.i64_in _ (by omega)
      obtain ⟨tb, htb⟩ : ∃ b, (u == t) = b := ⟨_, rfl⟩
      obtain ⟨p1, hp1⟩ : ∃ b, decide (u - t < g) = b := ⟨_, rfl⟩
      obtain ⟨p2, hp2⟩ : ∃ b, decide (t - u < g) = b := ⟨_, rfl⟩
      rw [htb] at hsf
      rw [hp1, hp2] at hsn
      have HSF := Lib.hid hsf; have HSN := Lib.hid hsn
      clear hu hsf hsn hfb hnb
      rcases fb with _ | _ <;> rcases nb with _ | _ <;> rcases p1 with _ | _
      all_goals
        go_wp2
        go_roundw
        case rel => exact ⟨trivial, j + 1, _, _, by omega, by go_num, rfl, rfl, HSF.out, HSN.out⟩
        case measure => simp [intOf]; omega
    · obtain rfl : n = j := by omega
      have dj : decide ((n : Int) < (n : Int)) = false := by simp
      have dj' : decide (n < n) = false := by simp
      rw [List.take_of_length_le (by rw [HN.out]; exact Nat.le_refl _)] at hfb hnb
      cases fb with
      | true =>
        have hSM := HWAS.out hfb
        have HSM := Lib.hid hSM
        clear hfb hnb hSM
        go_wp2_with fail
        go_at_call 63
        refine (ssame_yes _ _ _ _ _ _ S M _ rdS rdM HM.out HM'.out HSM.out (by omega)).mono ?_
        rintro r w5 ⟨rfl, hb5⟩
        go_wp2
        go_ret
        exact ⟨rfl, (by repeat (first | with_reducible exact Below.refl _ _ | with_reducible assumption | (with_reducible exact Env.below (by assumption)) | (with_reducible refine below_new ?_ _) | (with_reducible refine below_drew ?_) | (with_reducible refine below_drewN ?_ _) | (with_reducible refine below_put ?_ ?_ _; rotate_left 1; (dsimp only; omega)) | (with_reducible refine below_then ?_ (by assumption))))⟩
      | false =>
        have HNB := Lib.hid hnb
        clear hfb hnb
        go_wp2_with fail
        go_loopw [15, 16] (fun oo jj wr => ∃ (j : Nat) (ob : Bool), j ≤ m' ∧ jj = .int .i64 j ∧ oo = .bool ob ∧ (M.take j).any (· == (t, t + g)) = ob ∧ ∃ q, wr = w4.drewN q) (fun _ jj _ => m' - (intOf jj).toNat)
        case atStart => exact ⟨0, false, Nat.zero_le _, rfl, rfl, rfl, 0, rfl⟩
        case round =>
          obtain ⟨j, ob, hj, rfl, rfl, hob, q, rfl⟩ := hrel
          by_cases hjm : j < m'
          · have dj : decide ((j : Int) < (m' : Int)) = true := by simp; omega
            have dj' : decide (j < m') = true := by simp [hjm]
            obtain ⟨x, hx⟩ : ∃ x, M[j]? = some x := ⟨_, List.getElem?_eq_getElem (by rw [HM'.out]; omega)⟩
            have hsn := any_snoc (· == (t, t + g)) hx
            rw [hob] at hsn
            obtain ⟨b', off', rfl, hbS, c1, c2⟩ := span_cells rdM hx
            obtain ⟨x1, x2⟩ := x
            dsimp only at c1 c2
            rw [show ((x1, x2) == (t, t + g)) = (x1 == t && x2 == t + g) from rfl] at hsn
            have j1 : (0 : Int) ≤ (j : Int) := by omega
            have j2 : (j : Int) < (m' : Int) := by omega
            have e1 : IntKind.i64.wrap ((j : Int) + 1) = (j : Int) + 1 := IntWalk.i64_in _ (by omega)
            have HSN := Lib.hid hsn
            clear hx hsn hob
            by_cases h1 : x1 = t
            · by_cases h2 : x2 = t + g
              · have hs2 : (M.take (j + 1)).any (· == (t, t + g)) = true := by rw [HSN.out, h1, h2]; simp
                have HS2 := Lib.hid hs2
                subst h1 h2
                clear hs2
                rcases ob with _ | _
                all_goals
                  go_wp2
                  go_roundw
                  case rel => exact ⟨j + 1, _, by omega, by go_num, rfl, HS2.out, _, rfl⟩
                  case measure => simp [intOf]; omega
              · have hs2 : (M.take (j + 1)).any (· == (t, t + g)) = ob := by rw [HSN.out, show (x2 == t + g) = false by simp [h2]]; simp
                have HS2 := Lib.hid hs2
                subst h1
                clear hs2
                rcases ob with _ | _
                all_goals
                  go_wp2
                  go_roundw
                  case rel => exact ⟨j + 1, _, by omega, by go_num, rfl, HS2.out, _, rfl⟩
                  case measure => simp [intOf]; omega
            · have hs2 : (M.take (j + 1)).any (· == (t, t + g)) = ob := by rw [HSN.out, show (x1 == t) = false by simp [h1]]; simp
              have HS2 := Lib.hid hs2
              clear hs2
              rcases ob with _ | _
              all_goals
                go_wp2
                go_roundw
                case rel => exact ⟨j + 1, _, by omega, by go_num, rfl, HS2.out, _, rfl⟩
                case measure => simp [intOf]; omega
          · obtain rfl : m' = j := by omega
            have dj : decide ((m' : Int) < (m' : Int)) = false := by simp
            have dj' : decide (m' < m') = false := by simp
            rw [List.take_of_length_le (by rw [HM'.out]; exact Nat.le_refl _)] at hob
            cases nb with
            | false =>
              obtain ⟨h1, h2⟩ := HFAR.out HNB.out
              rw [hob] at h1
              subst h1
              have e1 : IntKind.i64.wrap ((m : Int) + 1) = (m' : Int) := by rw [IntWalk.i64_in _ (by omega)]; omega
              have H2 := Lib.hid h2
              clear h2 hob
              go_wp2
              go_ret
              exact ⟨rfl, (by repeat (first | with_reducible exact Below.refl _ _ | with_reducible assumption | (with_reducible exact Env.below (by assumption)) | (with_reducible refine below_new ?_ _) | (with_reducible refine below_drew ?_) | (with_reducible refine below_drewN ?_ _) | (with_reducible refine below_put ?_ ?_ _; rotate_left 1; (dsimp only; omega)) | (with_reducible refine below_then ?_ (by assumption))))⟩
            | true =>
              have h1 := HNEAR.out HNB.out
              have e1 : decide ((m' : Int) ≤ (m : Int)) = true := by simp; omega
              have e1' : decide (m' ≤ m) = true := by simp [h1]
              clear hob
              go_wp2
              go_ret
              exact ⟨rfl, (by repeat (first | with_reducible exact Below.refl _ _ | with_reducible assumption | (with_reducible exact Env.below (by assumption)) | (with_reducible refine below_new ?_ _) | (with_reducible refine below_drew ?_) | (with_reducible refine below_drewN ?_ _) | (with_reducible refine below_put ?_ ?_ _; rotate_left 1; (dsimp only; omega)) | (with_reducible refine below_then ?_ (by assumption))))⟩

set_option maxHeartbeats 8000000 in
set_option maxRecDepth 100000 in
theorem sessionAgain_walk {w : World} (A : Option Addr) (c : Nat) (ts : List Int) (_lc : ts.length ≤ c) (_lm : c ≤ maxLen) (_lw : ∀ x ∈ ts, i64ok x) (lr : Rd ienc 1 w w.heap.size A ts)
    (g : Int) (_wg : (Lit.int .i64 g).wf = true) (t : Int) (_wt : (Lit.int .i64 t).wf = true) :
    Calls Try.prog 15 #[.slice A ts.length c, .int .i64 g, .int .i64 t] w fun r w' => r = .returned (.bool true) ∧ Below w.heap.size w w' := by
  obtain ⟨n, hn⟩ : ∃ n, ts.length = n := ⟨_, rfl⟩
  rw [hn] at _lc ⊢
  have hfe := fun W (h : Rd ienc 1 W W.heap.size A ts) => slfew_any A c n ts g W hn h
  by_cases hf : ts.length ≤ 60 ∧ (∀ t ∈ ts, sck t g = 0) ∧ sck 0 g = 0
  · by_cases ht : sck t g = 0
    · exact sessionAgain_yes w A c n ts hn lr g t (by omega) hf.2.1 hf.2.2 ht
    · rw [show sfewB ts g = true from decide_eq_true hf] at hfe
      have hck := fun W => rscheck_any t g W
      obtain ⟨K, hK⟩ : ∃ K, K = sck t g := ⟨_, rfl⟩
      rw [← hK] at hck ht
      have e1 : (K != 0) = true := by simp [ht]
      have HFE := Lib.hid hfe; have HCK := Lib.hid hck
      clear hfe hf hn hck hK ht
      go_enter Try.func15, Try.ntmps15
      go_wp2_with fail
      go_at_call 57
      refine (salive_any _).mono ?_
      rintro r w1 ⟨rfl, hb1⟩
      go_wp2_with fail
      go_at_call 58
      refine (HFE.out _ (rd_grown lr (by repeat (first | with_reducible exact Below.refl _ _ | with_reducible assumption | (with_reducible exact Env.below (by assumption)) | (with_reducible refine below_new ?_ _) | (with_reducible refine below_drew ?_) | (with_reducible refine below_drewN ?_ _) | (with_reducible refine below_put ?_ ?_ _; rotate_left 1; (dsimp only; omega)) | (with_reducible refine below_then ?_ (by assumption)))))).mono ?_
      rintro r w2 ⟨rfl, hb2⟩
      go_wp2_with fail
      go_at_call 61
      refine (HCK.out _).mono ?_
      rintro r w2' ⟨rfl, rfl⟩
      go_wp2
      go_ret
      exact ⟨rfl, (by repeat (first | with_reducible exact Below.refl _ _ | with_reducible assumption | (with_reducible exact Env.below (by assumption)) | (with_reducible refine below_new ?_ _) | (with_reducible refine below_drew ?_) | (with_reducible refine below_drewN ?_ _) | (with_reducible refine below_put ?_ ?_ _; rotate_left 1; (dsimp only; omega)) | (with_reducible refine below_then ?_ (by assumption))))⟩
  · rw [show sfewB ts g = false from decide_eq_false hf] at hfe
    have HFE := Lib.hid hfe
    clear hfe hf hn
    go_enter Try.func15, Try.ntmps15
    go_wp2_with fail
    go_at_call 57
    refine (salive_any _).mono ?_
    rintro r w1 ⟨rfl, hb1⟩
    go_wp2_with fail
    go_at_call 58
    refine (HFE.out _ (rd_grown lr (by repeat (first | with_reducible exact Below.refl _ _ | with_reducible assumption | (with_reducible exact Env.below (by assumption)) | (with_reducible refine below_new ?_ _) | (with_reducible refine below_drew ?_) | (with_reducible refine below_drewN ?_ _) | (with_reducible refine below_put ?_ ?_ _; rotate_left 1; (dsimp only; omega)) | (with_reducible refine below_then ?_ (by assumption)))))).mono ?_
    rintro r w2 ⟨rfl, hb2⟩
    go_wp2
    go_ret
    exact ⟨rfl, (by repeat (first | with_reducible exact Below.refl _ _ | with_reducible assumption | (with_reducible exact Env.below (by assumption)) | (with_reducible refine below_new ?_ _) | (with_reducible refine below_drew ?_) | (with_reducible refine below_drewN ?_ _) | (with_reducible refine below_put ?_ ?_ _; rotate_left 1; (dsimp only; omega)) | (with_reducible refine below_then ?_ (by assumption))))⟩
end Go.Proofs.Ytffehibdeogjeaa
