/- What a task may have (chapter 27): limits, room, sends, kept, lists. Condition: lists of at most 2^40. -/
import Derived.Test.YtffehibdeogjeaaTaskEvent
namespace Go.Proofs.Ytffehibdeogjeaa
open Go.RowKit

theorem results_six {fn : Func} {a b c d e f : Tmp} (h : fn.results = #[.tmp a, .tmp b, .tmp c, .tmp d, .tmp e, .tmp f]) (tmps : Array Value) (P : Program) (w : World) :
    (results fn tmps).run P w = .ok (.tuple #[tmps.getD a undef, tmps.getD b undef, tmps.getD c undef, tmps.getD d undef, tmps.getD e undef, tmps.getD f undef]) w := by
  simp [results, h]
/-- How many marks a kind has, and what else. -/
structure Lim where
  least : Int
  most : Int
  keeps : Bool
  events : Bool
  rows : Bool
  late : Bool
def limT (kd : Int) : Lim :=
  if kd = 1 then ⟨0, 0, false, true, false, false⟩
  else if kd = 2 then ⟨1, 1, false, false, false, false⟩
  else if kd = 3 then ⟨0, 0, false, false, false, false⟩
  else if kd = 4 then ⟨1, 4, true, false, false, false⟩
  else if kd = 5 then ⟨2, 2, true, false, false, false⟩
  else if kd = 6 then ⟨0, 0, false, false, true, false⟩
  else if kd = 7 then ⟨0, 0, false, false, false, true⟩
  else ⟨1, 0, false, false, false, false⟩
theorem limits_any (kd : Int) (w : World) : Calls Try.prog 106 #[.int .u8 kd] w fun r w' => r = .returned (.tuple #[.int .i64 (limT kd).least, .int .i64 (limT kd).most, .bool (limT kd).keeps, .bool (limT kd).events, .bool (limT kd).rows, .bool (limT kd).late]) ∧ w = w' := by
  by_cases h1 : kd = 1
  · subst h1
    go_enter Try.func106, Try.ntmps106
    go_wp2
    (try simp only [Exit.inBlock, Exit.then]); refine bodyPost_ret (results_six rfl _ _ _) rfl ?_
    exact ⟨rfl, rfl⟩
  by_cases h2 : kd = 2
  · subst h2
    go_enter Try.func106, Try.ntmps106
    go_wp2
    (try simp only [Exit.inBlock, Exit.then]); refine bodyPost_ret (results_six rfl _ _ _) rfl ?_
    exact ⟨rfl, rfl⟩
  by_cases h3 : kd = 3
  · subst h3
    go_enter Try.func106, Try.ntmps106
    go_wp2
    (try simp only [Exit.inBlock, Exit.then]); refine bodyPost_ret (results_six rfl _ _ _) rfl ?_
    exact ⟨rfl, rfl⟩
  by_cases h4 : kd = 4
  · subst h4
    go_enter Try.func106, Try.ntmps106
    go_wp2
    (try simp only [Exit.inBlock, Exit.then]); refine bodyPost_ret (results_six rfl _ _ _) rfl ?_
    exact ⟨rfl, rfl⟩
  by_cases h5 : kd = 5
  · subst h5
    go_enter Try.func106, Try.ntmps106
    go_wp2
    (try simp only [Exit.inBlock, Exit.then]); refine bodyPost_ret (results_six rfl _ _ _) rfl ?_
    exact ⟨rfl, rfl⟩
  by_cases h6 : kd = 6
  · subst h6
    go_enter Try.func106, Try.ntmps106
    go_wp2
    (try simp only [Exit.inBlock, Exit.then]); refine bodyPost_ret (results_six rfl _ _ _) rfl ?_
    exact ⟨rfl, rfl⟩
  by_cases h7 : kd = 7
  · subst h7
    go_enter Try.func106, Try.ntmps106
    go_wp2
    (try simp only [Exit.inBlock, Exit.then]); refine bodyPost_ret (results_six rfl _ _ _) rfl ?_
    exact ⟨rfl, rfl⟩
  have e : limT kd = ⟨1, 0, false, false, false, false⟩ := by unfold limT; simp [h1, h2, h3, h4, h5, h6, h7]
  rw [e]
  have d1 : (kd == 1) = false := by simp [h1]
  have d2 : (kd == 2) = false := by simp [h2]
  have d3 : (kd == 3) = false := by simp [h3]
  have d4 : (kd == 4) = false := by simp [h4]
  have d5 : (kd == 5) = false := by simp [h5]
  have d6 : (kd == 6) = false := by simp [h6]
  have d7 : (kd == 7) = false := by simp [h7]
  clear h1 h2 h3 h4 h5 h6 h7 e
  go_enter Try.func106, Try.ntmps106
  go_wp2
  (try simp only [Exit.inBlock, Exit.then]); refine bodyPost_ret (results_six rfl _ _ _) rfl ?_
  exact ⟨rfl, rfl⟩
def roomT (has : Bool) (n : Int) : Int := if has = true then n else 0
theorem room27_any (has : Bool) (n : Int) (w : World) : Calls Try.prog 107 #[.bool has, .int .i64 n] w fun r w' => r = .returned (.int .i64 (roomT has n)) ∧ w = w' := by
  cases has
  all_goals
    go_enter Try.func107, Try.ntmps107
    go_wp2
    go_ret
    exact ⟨rfl, rfl⟩
theorem all_snoc27 {α : Type} (p : α → Bool) {l : List α} {k : Nat} {x : α} (h : l[k]? = some x) : (l.take (k + 1)).all p = ((l.take k).all p && p x) := by
  rw [List.take_add_one, h]
  simp
theorem all_not27 {α : Type} {p : α → Bool} {l : List α} {k : Nat} {x : α} (h : l[k]? = some x) (hx : p x = false) : l.all p = false := by
  rw [← Bool.not_eq_true, List.all_eq_true]
  intro ha
  have := ha x (List.mem_of_getElem? h)
  rw [hx] at this
  cases this
theorem sdok_lo {x : Sd} (h : x.out < 0) : sdok x = false := by unfold sdok; simp; intro h2; omega
theorem sdok_hi {x : Sd} (h : 3 ≤ x.out) : sdok x = false := by unfold sdok; simp; intro h2; omega
theorem sdok_in {x : Sd} (h : ¬ x.out < 0) (h2 : ¬ 3 ≤ x.out) : sdok x = msok x.m := by unfold sdok; simp; intro; omega
set_option maxHeartbeats 8000000 in
set_option maxRecDepth 100000 in
theorem sends_any (A : Option Addr) (c n : Nat) (l : List Sd) (w : World) (hln : l.length = n) (hn : n ≤ 1099511627776) (hr : Rd sdenc 11 w w.heap.size A l) :
    Calls Try.prog 108 #[.slice A n c] w fun e w' => e = .returned (.bool (l.all sdok)) ∧ Below w.heap.size w w' := by
  obtain ⟨R, hR⟩ : ∃ R, R = l.all sdok := ⟨_, rfl⟩
  rw [← hR]
  have HR := Lib.hid hR; have HN := Lib.hid hln
  clear hR hln
  go_enter Try.func108, Try.ntmps108
  go_wp2_with fail
  go_loopw [7] (fun i wr => ∃ k : Nat, k ≤ n ∧ i = .int .i64 k ∧ (l.take k).all sdok = true ∧ Below w.heap.size w wr) (fun i _ => n - (intOf i).toNat)
  case atStart => exact ⟨0, Nat.zero_le _, rfl, by simp, Below.refl _ _⟩
  case round =>
    obtain ⟨k, hk, rfl, hall, hb⟩ := hrel
    have HA := Lib.hid hall
    clear hall
    by_cases hlt : k < n
    · obtain ⟨x, hx⟩ : ∃ x, l[k]? = some x := ⟨_, List.getElem?_eq_getElem (by rw [HN.out]; exact hlt)⟩
      obtain ⟨b, off, rfl, hbb, f0, f1, f2, f3, f4, f5, f6, f7, f8, f9, f10⟩ := sd_cells (rd_grown hr hb) hx
      have d1 : decide ((k : Int) < (n : Int)) = true := by simp; omega
      have d1' : decide (k < n) = true := by simp [hlt]
      have k1 : (0 : Int) ≤ (k : Int) := by omega
      have k2 : (k : Int) < (n : Int) := by omega
      have e1 : IntKind.i64.wrap ((k : Int) + 1) = (k : Int) + 1 := IntWalk.i64_in _ (by omega)
      have HX := Lib.hid hx
      clear hx
      by_cases ha : x.out < 0
      · have hv : R = false := by rw [HR.out]; exact all_not27 HX.out (sdok_lo ha)
        subst hv
        have da : decide (x.out < 0) = true := decide_eq_true ha
        clear ha
        go_wp2_with fail
        go_ret
        exact ⟨rfl, (by repeat (first | with_reducible exact Below.refl _ _ | with_reducible assumption | (with_reducible exact Env.below (by assumption)) | (with_reducible refine below_new ?_ _) | (with_reducible refine below_drew ?_) | (with_reducible refine below_drewN ?_ _) | (with_reducible refine below_put ?_ ?_ _; rotate_left 1; (dsimp only; omega)) | (with_reducible refine below_then ?_ (by assumption))))⟩
      · have da : decide (x.out < 0) = false := decide_eq_false ha
        by_cases hc : 3 ≤ x.out
        · have hv : R = false := by rw [HR.out]; exact all_not27 HX.out (sdok_hi hc)
          subst hv
          have dc : decide (3 ≤ x.out) = true := decide_eq_true hc
          clear ha hc
          go_wp2_with fail
          go_ret
          exact ⟨rfl, (by repeat (first | with_reducible exact Below.refl _ _ | with_reducible assumption | (with_reducible exact Env.below (by assumption)) | (with_reducible refine below_new ?_ _) | (with_reducible refine below_drew ?_) | (with_reducible refine below_drewN ?_ _) | (with_reducible refine below_put ?_ ?_ _; rotate_left 1; (dsimp only; omega)) | (with_reducible refine below_then ?_ (by assumption))))⟩
        · have dc : decide (3 ≤ x.out) = false := decide_eq_false hc
          have hs := sdok_in ha hc
          obtain ⟨B, hB⟩ : ∃ B, B = msok x.m := ⟨_, rfl⟩
          rw [← hB] at hs
          have hcm := fun W => mcheck_any x.m.kind x.m.k x.m.t x.m.v x.m.time x.m.rk x.m.rs x.m.re x.m.ra x.m.rb W
          rw [show (⟨x.m.kind, x.m.k, x.m.t, x.m.v, x.m.time, x.m.rk, x.m.rs, x.m.re, x.m.ra, x.m.rb⟩ : Ms) = x.m from rfl, ← hB] at hcm
          have HC := Lib.hid hcm; have HS := Lib.hid hs
          clear ha hc hcm hs hB
          cases B with
          | false =>
            have hv : R = false := by rw [HR.out]; exact all_not27 HX.out HS.out
            subst hv
            go_wp2_with fail
            go_at_call 80
            refine (HC.out _).mono ?_
            rintro r w2 ⟨rfl, hb2⟩
            go_wp2_with fail
            go_ret
            exact ⟨rfl, (by repeat (first | with_reducible exact Below.refl _ _ | with_reducible assumption | (with_reducible exact Env.below (by assumption)) | (with_reducible refine below_new ?_ _) | (with_reducible refine below_drew ?_) | (with_reducible refine below_drewN ?_ _) | (with_reducible refine below_put ?_ ?_ _; rotate_left 1; (dsimp only; omega)) | (with_reducible refine below_then ?_ (by assumption))))⟩
          | true =>
            have hnx : (l.take (k + 1)).all sdok = true := by rw [all_snoc27 sdok HX.out, HA.out, HS.out]; rfl
            have HNX := Lib.hid hnx
            clear hnx
            go_wp2_with fail
            go_at_call 80
            refine (HC.out _).mono ?_
            rintro r w2 ⟨rfl, hb2⟩
            go_wp2_with fail
            go_roundw
            case rel => exact ⟨k + 1, by omega, by go_num, HNX.out, (by repeat (first | with_reducible exact Below.refl _ _ | with_reducible assumption | (with_reducible exact Env.below (by assumption)) | (with_reducible refine below_new ?_ _) | (with_reducible refine below_drew ?_) | (with_reducible refine below_drewN ?_ _) | (with_reducible refine below_put ?_ ?_ _; rotate_left 1; (dsimp only; omega)) | (with_reducible refine below_then ?_ (by assumption))))⟩
            case measure => simp [intOf]; omega
    · have hkn : k = n := by omega
      have hv : R = true := by rw [HR.out]; have := HA.out; rwa [List.take_of_length_le (by rw [HN.out]; omega)] at this
      subst hv
      subst hkn
      have d1 : decide ((k : Int) < (k : Int)) = false := by simp
      have d1' : decide (k < k) = false := by simp
      clear hlt
      go_wp2_with fail
      go_ret
      exact ⟨rfl, (by repeat (first | with_reducible exact Below.refl _ _ | with_reducible assumption | (with_reducible exact Env.below (by assumption)) | (with_reducible refine below_new ?_ _) | (with_reducible refine below_drew ?_) | (with_reducible refine below_drewN ?_ _) | (with_reducible refine below_put ?_ ?_ _; rotate_left 1; (dsimp only; omega)) | (with_reducible refine below_then ?_ (by assumption))))⟩
set_option maxHeartbeats 8000000 in
set_option maxRecDepth 100000 in
theorem rsends_any (A : Option Addr) (c n : Nat) (l : List Sd) (w : World) (hln : l.length = n) (hn : n ≤ 1099511627776) (hr : Rd sdenc 11 w w.heap.size A l) :
    Calls Try.prog 116 #[.slice A n c] w fun e w' => e = .returned (.bool (l.all sdok)) ∧ Below w.heap.size w w' := by
  obtain ⟨R, hR⟩ : ∃ R, R = l.all sdok := ⟨_, rfl⟩
  rw [← hR]
  have HR := Lib.hid hR; have HN := Lib.hid hln
  clear hR hln
  go_enter Try.func116, Try.ntmps116
  go_wp2_with fail
  go_loopw [3] (fun i wr => ∃ k : Nat, k ≤ n ∧ i = .int .i64 k ∧ (l.take k).all sdok = true ∧ Below w.heap.size w wr) (fun i _ => n - (intOf i).toNat)
  case atStart => exact ⟨0, Nat.zero_le _, rfl, by simp, Below.refl _ _⟩
  case round =>
    obtain ⟨k, hk, rfl, hall, hb⟩ := hrel
    have HA := Lib.hid hall
    clear hall
    by_cases hlt : k < n
    · obtain ⟨x, hx⟩ : ∃ x, l[k]? = some x := ⟨_, List.getElem?_eq_getElem (by rw [HN.out]; exact hlt)⟩
      obtain ⟨b, off, rfl, hbb, f0, f1, f2, f3, f4, f5, f6, f7, f8, f9, f10⟩ := sd_cells (rd_grown hr hb) hx
      have d1 : decide ((k : Int) < (n : Int)) = true := by simp; omega
      have d1' : decide (k < n) = true := by simp [hlt]
      have k1 : (0 : Int) ≤ (k : Int) := by omega
      have k2 : (k : Int) < (n : Int) := by omega
      have e1 : IntKind.i64.wrap ((k : Int) + 1) = (k : Int) + 1 := IntWalk.i64_in _ (by omega)
      have HX := Lib.hid hx
      clear hx
      by_cases ha : x.out < 0
      · have hv : R = false := by rw [HR.out]; exact all_not27 HX.out (sdok_lo ha)
        subst hv
        have da : decide (x.out < 0) = true := decide_eq_true ha
        clear ha
        go_wp2_with fail
        go_ret
        exact ⟨rfl, (by repeat (first | with_reducible exact Below.refl _ _ | with_reducible assumption | (with_reducible exact Env.below (by assumption)) | (with_reducible refine below_new ?_ _) | (with_reducible refine below_drew ?_) | (with_reducible refine below_drewN ?_ _) | (with_reducible refine below_put ?_ ?_ _; rotate_left 1; (dsimp only; omega)) | (with_reducible refine below_then ?_ (by assumption))))⟩
      · have da : decide (x.out < 0) = false := decide_eq_false ha
        by_cases hc : 3 ≤ x.out
        · have hv : R = false := by rw [HR.out]; exact all_not27 HX.out (sdok_hi hc)
          subst hv
          have dc : decide (3 ≤ x.out) = true := decide_eq_true hc
          clear ha hc
          go_wp2_with fail
          go_ret
          exact ⟨rfl, (by repeat (first | with_reducible exact Below.refl _ _ | with_reducible assumption | (with_reducible exact Env.below (by assumption)) | (with_reducible refine below_new ?_ _) | (with_reducible refine below_drew ?_) | (with_reducible refine below_drewN ?_ _) | (with_reducible refine below_put ?_ ?_ _; rotate_left 1; (dsimp only; omega)) | (with_reducible refine below_then ?_ (by assumption))))⟩
        · have dc : decide (3 ≤ x.out) = false := decide_eq_false hc
          have hs := sdok_in ha hc
          obtain ⟨B, hB⟩ : ∃ B, B = msok x.m := ⟨_, rfl⟩
          rw [← hB] at hs
          have hcm := fun W => valid_any x.m.kind x.m.k x.m.t x.m.v x.m.time x.m.rk x.m.rs x.m.re x.m.ra x.m.rb W
          rw [show (⟨x.m.kind, x.m.k, x.m.t, x.m.v, x.m.time, x.m.rk, x.m.rs, x.m.re, x.m.ra, x.m.rb⟩ : Ms) = x.m from rfl, ← hB] at hcm
          have HC := Lib.hid hcm; have HS := Lib.hid hs
          clear ha hc hcm hs hB
          cases B with
          | false =>
            have hv : R = false := by rw [HR.out]; exact all_not27 HX.out HS.out
            subst hv
            go_wp2_with fail
            go_at_call 70
            refine (HC.out _).mono ?_
            rintro r w2 ⟨rfl, hb2⟩
            go_wp2_with fail
            go_ret
            exact ⟨rfl, (by repeat (first | with_reducible exact Below.refl _ _ | with_reducible assumption | (with_reducible exact Env.below (by assumption)) | (with_reducible refine below_new ?_ _) | (with_reducible refine below_drew ?_) | (with_reducible refine below_drewN ?_ _) | (with_reducible refine below_put ?_ ?_ _; rotate_left 1; (dsimp only; omega)) | (with_reducible refine below_then ?_ (by assumption))))⟩
          | true =>
            have hnx : (l.take (k + 1)).all sdok = true := by rw [all_snoc27 sdok HX.out, HA.out, HS.out]; rfl
            have HNX := Lib.hid hnx
            clear hnx
            go_wp2_with fail
            go_at_call 70
            refine (HC.out _).mono ?_
            rintro r w2 ⟨rfl, hb2⟩
            go_wp2_with fail
            go_roundw
            case rel => exact ⟨k + 1, by omega, by go_num, HNX.out, (by repeat (first | with_reducible exact Below.refl _ _ | with_reducible assumption | (with_reducible exact Env.below (by assumption)) | (with_reducible refine below_new ?_ _) | (with_reducible refine below_drew ?_) | (with_reducible refine below_drewN ?_ _) | (with_reducible refine below_put ?_ ?_ _; rotate_left 1; (dsimp only; omega)) | (with_reducible refine below_then ?_ (by assumption))))⟩
            case measure => simp [intOf]; omega
    · have hkn : k = n := by omega
      have hv : R = true := by rw [HR.out]; have := HA.out; rwa [List.take_of_length_le (by rw [HN.out]; omega)] at this
      subst hv
      subst hkn
      have d1 : decide ((k : Int) < (k : Int)) = false := by simp
      have d1' : decide (k < k) = false := by simp
      clear hlt
      go_wp2_with fail
      go_ret
      exact ⟨rfl, (by repeat (first | with_reducible exact Below.refl _ _ | with_reducible assumption | (with_reducible exact Env.below (by assumption)) | (with_reducible refine below_new ?_ _) | (with_reducible refine below_drew ?_) | (with_reducible refine below_drewN ?_ _) | (with_reducible refine below_put ?_ ?_ _; rotate_left 1; (dsimp only; omega)) | (with_reducible refine below_then ?_ (by assumption))))⟩
end Go.Proofs.Ytffehibdeogjeaa
