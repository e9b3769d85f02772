/- The greatest number that divides two (chapter 19): by remainders, and by halves. Condition: positive numbers of at most 2^30. -/
import Derived.Test.YtbbdepeifdbbdaaKitA
namespace Go.Proofs.Ytbbdepeifdbbdaa
open Go.RowKit

theorem gcd_step {p q : Int} (hp : 0 < p) (hq : 0 < q) : Int.gcd q (p % q) = Int.gcd p q := by
  obtain ⟨m, rfl⟩ : ∃ m : Nat, p = m := ⟨p.toNat, by omega⟩
  obtain ⟨n, rfl⟩ : ∃ n : Nat, q = n := ⟨q.toNat, by omega⟩
  have e : ((m : Int) % (n : Int)) = ((m % n : Nat) : Int) := by omega
  rw [e]
  show Nat.gcd n (m % n) = Nat.gcd m n
  rw [Nat.gcd_comm m n, Nat.gcd_rec n m, Nat.gcd_comm]
set_option maxHeartbeats 4000000 in
theorem divisor_any (a b : Int) (w : World) (ha : 0 < a) (hb : 0 ≤ b) (ha2 : a ≤ 1073741824) (hb2 : b ≤ 1073741824) :
    Calls Try.prog 64 #[.int .i64 a, .int .i64 b] w fun e w' => e = .returned (.int .i64 (Int.gcd a b)) ∧ Below w.heap.size w w' := by
  obtain ⟨G, hG⟩ : ∃ G : Nat, G = Int.gcd a b := ⟨_, rfl⟩
  rw [← hG]
  go_enter Try.func64, Try.ntmps64
  go_wp2_with fail
  go_loopw [0, 1] (fun x y wr => ∃ (p q : Int), x = .int .i64 p ∧ y = .int .i64 q ∧ 0 < p ∧ 0 ≤ q ∧ p ≤ 1073741824 ∧ q ≤ 1073741824 ∧ Int.gcd p q = G ∧ Below w.heap.size w wr) (fun _ y _ => (intOf y).toNat)
  case atStart => exact ⟨a, b, rfl, rfl, ha, hb, ha2, hb2, hG.symm, Below.refl _ _⟩
  case round =>
    clear hG
    obtain ⟨p, q, rfl, rfl, h1, h2, h3, h4, h5, hbw⟩ := hrel
    by_cases hq : q = 0
    · subst hq
      have hp : (p : Int) = (G : Int) := by rw [← h5, Int.gcd_zero_right]; omega
      clear h5
      go_wp2
      go_ret
      exact ⟨ret_i64 hp, hbw⟩
    · have d1 : (q != 0) = true := by simp [hq]
      have e1 : p.tmod q = p % q := Int.tmod_eq_emod_of_nonneg (by omega)
      have e2 : 0 ≤ p % q := Int.emod_nonneg _ hq
      have e3 : p % q < q := Int.emod_lt_of_pos _ (by omega)
      have e4 : IntKind.i64.wrap (p % q) = p % q := IntWalk.i64_in _ (by omega)
      have hg : Int.gcd q (p % q) = G := by rw [← h5]; exact gcd_step h1 (by omega)
      have HG := Lib.hid hg
      clear h5 hg
      go_wp2_with fail
      go_quiet (fail)
      go_wp2
      go_roundw
      case rel => exact ⟨q, p % q, rfl, rfl, by omega, e2, by omega, by omega, HG.out, below_drewN hbw _⟩
      case measure => simp [intOf]; omega
theorem gcd_half {m n : Nat} (hn : n % 2 = 1) : Nat.gcd (2 * m) n = Nat.gcd m n := by
  have h2 : Nat.Coprime 2 n := by
    show Nat.gcd 2 n = 1
    rw [Nat.gcd_rec, hn]
    rfl
  exact h2.gcd_mul_left_cancel m
theorem gcd_take {m n : Nat} (h : n ≤ m) : Nat.gcd (m - n) n = Nat.gcd m n := by
  obtain ⟨d, rfl⟩ : ∃ d, m = d + n := ⟨m - n, by omega⟩
  rw [Nat.add_sub_cancel, Nat.gcd_add_self_left]
theorem half_facts (p : Nat) : ((p : Nat) : Int).tdiv 2 = ((p / 2 : Nat) : Int) ∧ (p % 2 = 0 → (p : Int).tmod 2 = 0) ∧ (¬ p % 2 = 0 → (p : Int).tmod 2 = 1) := by
  have h1 : (p : Int).tmod 2 = (p : Int) % 2 := Int.tmod_eq_emod_of_nonneg (by omega)
  have h2 : (p : Int).tdiv 2 = (p : Int) / 2 := Int.tdiv_eq_ediv_of_nonneg (by omega)
  rw [h1, h2]
  omega
theorem gcd_even {p q : Nat} (hp : p % 2 = 0) (hq : ¬ q % 2 = 0) : Nat.gcd (p / 2) q = Nat.gcd p q := by
  have h := gcd_half (m := p / 2) (n := q) (by omega)
  rw [← h]
  congr 1; omega
set_option maxHeartbeats 4000000 in
theorem rdivisor_any (a b : Int) (w : World) (ha : 0 < a) (hb : 0 < b) (ha2 : a ≤ 1073741824) (hb2 : b ≤ 1073741824) :
    Calls Try.prog 38 #[.int .i64 a, .int .i64 b] w fun e w' => e = .returned (.int .i64 (Int.gcd a b)) ∧ Below w.heap.size w w' := by
  obtain ⟨G, hG⟩ : ∃ G : Nat, G = Int.gcd a b := ⟨_, rfl⟩
  rw [← hG]
  go_enter Try.func38, Try.ntmps38
  go_wp2_with fail
  go_loopw [0, 1, 5] (fun x y z wr => ∃ (p q t : Nat), x = .int .i64 p ∧ y = .int .i64 q ∧ z = .int .i64 t ∧ 0 < p ∧ 0 < q ∧ p ≤ 1073741824 ∧ q ≤ 1073741824 ∧ 0 < t ∧ t * p ≤ 1073741824 ∧ t * Nat.gcd p q = G ∧ Below w.heap.size w wr) (fun x _ _ _ => (intOf x).toNat)
  case atStart =>
    refine ⟨a.toNat, b.toNat, 1, by rw [Int.toNat_of_nonneg (by omega)], by rw [Int.toNat_of_nonneg (by omega)], rfl, by omega, by omega, by omega, by omega, by omega, by omega, ?_, Below.refl _ _⟩
    rw [hG, Nat.one_mul]
    show _ = Nat.gcd a.natAbs b.natAbs
    congr 1 <;> omega
  case round =>
    clear hG
    obtain ⟨p, q, t, rfl, rfl, rfl, h1, h2, h3, h4, h5, h6, h7, hbw⟩ := hrel
    have htp : t ≤ t * p := Nat.le_mul_of_pos_right t h1
    obtain ⟨dp, mp0, mp1⟩ := half_facts p
    obtain ⟨dq, mq0, mq1⟩ := half_facts q
    by_cases hpe : p % 2 = 0 ∧ q % 2 = 0
    · have ep := mp0 hpe.1
      have eq := mq0 hpe.2
      have h8 : t * 2 * (p / 2) = t * p := by rw [Nat.mul_assoc]; congr 1; omega
      have hg : t * 2 * Nat.gcd (p / 2) (q / 2) = G := by
        rw [← h7, Nat.mul_assoc, ← Nat.gcd_mul_left]
        congr 2 <;> omega
      have h9 : t * 2 ≤ t * 2 * (p / 2) := Nat.le_mul_of_pos_right _ (by omega)
      have et : IntKind.i64.wrap ((t : Int) * 2) = ((t * 2 : Nat) : Int) := by rw [IntWalk.i64_in _ (by omega)]; omega
      have w1 : IntKind.i64.wrap ((p / 2 : Nat) : Int) = ((p / 2 : Nat) : Int) := IntWalk.i64_in _ (by omega)
      have w2 : IntKind.i64.wrap ((q / 2 : Nat) : Int) = ((q / 2 : Nat) : Int) := IntWalk.i64_in _ (by omega)
      have HG := Lib.hid hg; have H8 := Lib.hid h8
      obtain ⟨hp2, hq2⟩ := hpe
      clear h7 hg h8 mp0 mp1 mq0 mq1
      go_wp2
      go_roundw
      case rel => exact ⟨p / 2, q / 2, t * 2, by first | rfl | rw [dp], by first | rfl | rw [dq], by first | rfl | rw [et], by omega, by omega, by omega, by omega, by omega, by rw [H8.out]; omega, HG.out, hbw⟩
      case measure => simp [intOf]; omega
    · obtain ⟨Γ, hΓ⟩ : ∃ Γ, Γ = Nat.gcd p q := ⟨_, rfl⟩
      have hfin : t * Γ = G := by rw [hΓ]; exact h7
      have HFIN := Lib.hid hfin
      have htl : t ≤ 1073741824 := by omega
      clear h7 hfin
      have htr : ∀ r, r = Γ → t * r ≤ t * p := fun r hr => Nat.mul_le_mul_left t (by rw [hr, hΓ]; exact Nat.le_of_dvd h1 (Nat.gcd_dvd_left p q))
      have HTR := Lib.hid htr
      clear htr
      by_cases hpp : p % 2 = 0
      · have ep := mp0 hpp
        have eq := mq1 (by omega)
        clear mp0 mp1 mq0 mq1
        go_wp2_with fail
        go_loopw [0, 1] (fun x y wr => ∃ (p q : Nat), x = .int .i64 p ∧ y = .int .i64 q ∧ 0 < p ∧ 0 < q ∧ p ≤ 1073741824 ∧ q ≤ 1073741824 ∧ ¬ (p % 2 = 0 ∧ q % 2 = 0) ∧ Nat.gcd p q = Γ ∧ Below w.heap.size w wr) (fun x y _ => (intOf x).toNat + (intOf y).toNat)
        case atStart => exact ⟨p, q, rfl, rfl, h1, h2, h3, h4, hpe, hΓ.symm, hbw⟩
        case round =>
          clear hpe hΓ hbw
          obtain ⟨r, s, rfl, rfl, g1, g2, g3, g4, g5, g6, hb⟩ := hrel
          obtain ⟨dr, mr0, mr1⟩ := half_facts r
          obtain ⟨ds, ms0, ms1⟩ := half_facts s
          by_cases hrs : r = s
          · subst hrs
            have hr : r = Γ := by rw [← g6, Nat.gcd_self]
            have hmul : IntKind.i64.wrap ((r : Int) * (t : Int)) = ((G : Nat) : Int) := by
              have e : (r : Int) * (t : Int) = ((G : Nat) : Int) := by rw [← HFIN.out, hr, Int.natCast_mul, Int.mul_comm]
              rw [e]
              refine IntWalk.i64_in _ ?_
              have : t * r ≤ t * p := HTR.out r hr
              have : G = t * r := by rw [← HFIN.out, hr]
              omega
            clear g6 hr mr0 mr1 ms0 ms1
            go_wp2
            go_ret
            exact ⟨ret_i64 (by first | rfl | exact hmul), hb⟩
          · have dne : ((r : Int) != (s : Int)) = true := by simp; omega
            by_cases hre : r % 2 = 0
            · have er := mr0 hre
              have hg := (gcd_even hre (show ¬ s % 2 = 0 by omega)).trans g6
              have w1 : IntKind.i64.wrap ((r / 2 : Nat) : Int) = ((r / 2 : Nat) : Int) := IntWalk.i64_in _ (by omega)
              have HG := Lib.hid hg
              clear g6 hg mr0 mr1 ms0 ms1 hrs
              go_wp2
              go_roundw
              case rel => exact ⟨r / 2, s, by first | rfl | rw [dr], rfl, by omega, g2, by omega, g4, by omega, HG.out, hb⟩
              case measure => simp [intOf]; omega
            · have er := mr1 hre
              by_cases hse : s % 2 = 0
              · have es := ms0 hse
                have hg : Nat.gcd r (s / 2) = Γ := by rw [Nat.gcd_comm]; exact (gcd_even hse hre).trans (by rw [Nat.gcd_comm]; exact g6)
                have w1 : IntKind.i64.wrap ((s / 2 : Nat) : Int) = ((s / 2 : Nat) : Int) := IntWalk.i64_in _ (by omega)
                have HG := Lib.hid hg
                clear g6 hg mr0 mr1 ms0 ms1 hrs
                go_wp2
                go_roundw
                case rel => exact ⟨r, s / 2, rfl, by first | rfl | rw [ds], g1, by omega, g3, by omega, by omega, HG.out, hb⟩
                case measure => simp [intOf]; omega
              · have es := ms1 hse
                by_cases hgt : s < r
                · have dgt : decide ((s : Int) < (r : Int)) = true := by simp; omega
                  have dgt' : decide (s < r) = true := by simp [hgt]
                  have hg : Nat.gcd (r - s) s = Γ := (gcd_take (by omega)).trans g6
                  have w1 : IntKind.i64.wrap ((r : Int) - (s : Int)) = ((r - s : Nat) : Int) := by rw [IntWalk.i64_in _ (by omega)]; omega
                  have HG := Lib.hid hg
                  clear g6 hg mr0 mr1 ms0 ms1 hrs
                  go_wp2
                  go_roundw
                  case rel => exact ⟨r - s, s, by first | rfl | rw [w1], rfl, by omega, g2, by omega, g4, by omega, HG.out, hb⟩
                  case measure => simp [intOf]; omega
                · have dgt : decide ((s : Int) < (r : Int)) = false := by simp; omega
                  have dgt' : decide (s < r) = false := by simp; omega
                  have hg : Nat.gcd r (s - r) = Γ := by rw [Nat.gcd_comm]; exact (gcd_take (by omega)).trans (by rw [Nat.gcd_comm]; exact g6)
                  have w1 : IntKind.i64.wrap ((s : Int) - (r : Int)) = ((s - r : Nat) : Int) := by rw [IntWalk.i64_in _ (by omega)]; omega
                  have HG := Lib.hid hg
                  have hlt : r < s := by omega
                  clear g6 hg mr0 mr1 ms0 ms1 hrs hgt
                  go_wp2
                  go_roundw
                  case rel => exact ⟨r, s - r, rfl, by first | rfl | rw [w1], g1, by omega, g3, by omega, by omega, HG.out, hb⟩
                  case measure => simp [intOf]; omega
      · have ep := mp1 hpp
        clear mp0 mp1 mq0 mq1
        go_wp2_with fail
        go_loopw [0, 1] (fun x y wr => ∃ (p q : Nat), x = .int .i64 p ∧ y = .int .i64 q ∧ 0 < p ∧ 0 < q ∧ p ≤ 1073741824 ∧ q ≤ 1073741824 ∧ ¬ (p % 2 = 0 ∧ q % 2 = 0) ∧ Nat.gcd p q = Γ ∧ Below w.heap.size w wr) (fun x y _ => (intOf x).toNat + (intOf y).toNat)
        case atStart => exact ⟨p, q, rfl, rfl, h1, h2, h3, h4, hpe, hΓ.symm, hbw⟩
        case round =>
          clear hpe hΓ hbw
          obtain ⟨r, s, rfl, rfl, g1, g2, g3, g4, g5, g6, hb⟩ := hrel
          obtain ⟨dr, mr0, mr1⟩ := half_facts r
          obtain ⟨ds, ms0, ms1⟩ := half_facts s
          by_cases hrs : r = s
          · subst hrs
            have hr : r = Γ := by rw [← g6, Nat.gcd_self]
            have hmul : IntKind.i64.wrap ((r : Int) * (t : Int)) = ((G : Nat) : Int) := by
              have e : (r : Int) * (t : Int) = ((G : Nat) : Int) := by rw [← HFIN.out, hr, Int.natCast_mul, Int.mul_comm]
              rw [e]
              refine IntWalk.i64_in _ ?_
              have : t * r ≤ t * p := HTR.out r hr
              have : G = t * r := by rw [← HFIN.out, hr]
              omega
            clear g6 hr mr0 mr1 ms0 ms1
            go_wp2
            go_ret
            exact ⟨ret_i64 (by first | rfl | exact hmul), hb⟩
          · have dne : ((r : Int) != (s : Int)) = true := by simp; omega
            by_cases hre : r % 2 = 0
            · have er := mr0 hre
              have hg := (gcd_even hre (show ¬ s % 2 = 0 by omega)).trans g6
              have w1 : IntKind.i64.wrap ((r / 2 : Nat) : Int) = ((r / 2 : Nat) : Int) := IntWalk.i64_in _ (by omega)
              have HG := Lib.hid hg
              clear g6 hg mr0 mr1 ms0 ms1 hrs
              go_wp2
              go_roundw
              case rel => exact ⟨r / 2, s, by first | rfl | rw [dr], rfl, by omega, g2, by omega, g4, by omega, HG.out, hb⟩
              case measure => simp [intOf]; omega
            · have er := mr1 hre
              by_cases hse : s % 2 = 0
              · have es := ms0 hse
                have hg : Nat.gcd r (s / 2) = Γ := by rw [Nat.gcd_comm]; exact (gcd_even hse hre).trans (by rw [Nat.gcd_comm]; exact g6)
                have w1 : IntKind.i64.wrap ((s / 2 : Nat) : Int) = ((s / 2 : Nat) : Int) := IntWalk.i64_in _ (by omega)
                have HG := Lib.hid hg
                clear g6 hg mr0 mr1 ms0 ms1 hrs
                go_wp2
                go_roundw
                case rel => exact ⟨r, s / 2, rfl, by first | rfl | rw [ds], g1, by omega, g3, by omega, by omega, HG.out, hb⟩
                case measure => simp [intOf]; omega
              · have es := ms1 hse
                by_cases hgt : s < r
                · have dgt : decide ((s : Int) < (r : Int)) = true := by simp; omega
                  have dgt' : decide (s < r) = true := by simp [hgt]
                  have hg : Nat.gcd (r - s) s = Γ := (gcd_take (by omega)).trans g6
                  have w1 : IntKind.i64.wrap ((r : Int) - (s : Int)) = ((r - s : Nat) : Int) := by rw [IntWalk.i64_in _ (by omega)]; omega
                  have HG := Lib.hid hg
                  clear g6 hg mr0 mr1 ms0 ms1 hrs
                  go_wp2
                  go_roundw
                  case rel => exact ⟨r - s, s, by first | rfl | rw [w1], rfl, by omega, g2, by omega, g4, by omega, HG.out, hb⟩
                  case measure => simp [intOf]; omega
                · have dgt : decide ((s : Int) < (r : Int)) = false := by simp; omega
                  have dgt' : decide (s < r) = false := by simp; omega
                  have hg : Nat.gcd r (s - r) = Γ := by rw [Nat.gcd_comm]; exact (gcd_take (by omega)).trans (by rw [Nat.gcd_comm]; exact g6)
                  have w1 : IntKind.i64.wrap ((s : Int) - (r : Int)) = ((s - r : Nat) : Int) := by rw [IntWalk.i64_in _ (by omega)]; omega
                  have HG := Lib.hid hg
                  have hlt : r < s := by omega
                  clear g6 hg mr0 mr1 ms0 ms1 hrs hgt
                  go_wp2
                  go_roundw
                  case rel => exact ⟨r, s - r, rfl, by first | rfl | rw [w1], g1, by omega, g3, by omega, by omega, HG.out, hb⟩
                  case measure => simp [intOf]; omega
end Go.Proofs.Ytbbdepeifdbbdaa
