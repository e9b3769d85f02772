/- Messages, events and marks checked (chapters 25, 27, 34), printed by wip/gen_sinkmsg.py. No condition. -/
import Derived.Test.YtffehibdeogjeaaSinkSame
namespace Go.Proofs.Ytffehibdeogjeaa
open Go.RowKit

/-- A message: its kind, a record, a time, a row. -/
structure Ms where
  kind : Int
  k : Int
  t : Int
  v : Int
  time : Int
  rk : Int
  rs : Int
  re : Int
  ra : Int
  rb : Int
deriving DecidableEq
def menc (m : Ms) : List Value := [.int .u8 m.kind, .int .i64 m.k, .int .i64 m.t, .int .i64 m.v, .int .i64 m.time, .int .i64 m.rk, .int .i64 m.rs, .int .i64 m.re, .int .i64 m.ra, .int .i64 m.rb]
theorem menc_len (m : Ms) : (menc m).length = 10 := rfl
theorem menc_one (l : List Ms) : ∀ u ∈ l.flatMap menc, u.oneCell' = true := by
  intro u hu
  obtain ⟨x, _, hx⟩ := List.mem_flatMap.1 hu
  simp [menc] at hx
  rcases hx with rfl | rfl | rfl | rfl | rfl | rfl | rfl | rfl | rfl | rfl <;> rfl
theorem neq_ms {x y : Ms} (h : x ≠ y) (w : World) : (binOp .neq 74 (.agg #[.int .u8 x.kind, .int .i64 x.k, .int .i64 x.t, .int .i64 x.v, .int .i64 x.time, .int .i64 x.rk, .int .i64 x.rs, .int .i64 x.re, .int .i64 x.ra, .int .i64 x.rb]) (.agg #[.int .u8 y.kind, .int .i64 y.k, .int .i64 y.t, .int .i64 y.v, .int .i64 y.time, .int .i64 y.rk, .int .i64 y.rs, .int .i64 y.re, .int .i64 y.ra, .int .i64 y.rb])).run Try.prog w = .ok (.bool true) w := by
  have harr := eql_arr2
  obtain ⟨x1, x2, x3, x4, x5, x6, x7, x8, x9, x10⟩ := x
  obtain ⟨y1, y2, y3, y4, y5, y6, y7, y8, y9, y10⟩ := y
  go_simp
  simpa using h
theorem neq_ms' (x : Ms) (w : World) : (binOp .neq 74 (.agg #[.int .u8 x.kind, .int .i64 x.k, .int .i64 x.t, .int .i64 x.v, .int .i64 x.time, .int .i64 x.rk, .int .i64 x.rs, .int .i64 x.re, .int .i64 x.ra, .int .i64 x.rb]) (.agg #[.int .u8 x.kind, .int .i64 x.k, .int .i64 x.t, .int .i64 x.v, .int .i64 x.time, .int .i64 x.rk, .int .i64 x.rs, .int .i64 x.re, .int .i64 x.ra, .int .i64 x.rb])).run Try.prog w = .ok (.bool false) w := by
  have harr := eql_arr2
  go_simp
theorem eql_ms {x y : Ms} (h : x ≠ y) (w : World) : (binOp .eql 74 (.agg #[.int .u8 x.kind, .int .i64 x.k, .int .i64 x.t, .int .i64 x.v, .int .i64 x.time, .int .i64 x.rk, .int .i64 x.rs, .int .i64 x.re, .int .i64 x.ra, .int .i64 x.rb]) (.agg #[.int .u8 y.kind, .int .i64 y.k, .int .i64 y.t, .int .i64 y.v, .int .i64 y.time, .int .i64 y.rk, .int .i64 y.rs, .int .i64 y.re, .int .i64 y.ra, .int .i64 y.rb])).run Try.prog w = .ok (.bool false) w := by
  have harr := eql_arr2
  obtain ⟨x1, x2, x3, x4, x5, x6, x7, x8, x9, x10⟩ := x
  obtain ⟨y1, y2, y3, y4, y5, y6, y7, y8, y9, y10⟩ := y
  go_simp
  simpa using h
theorem eql_ms' (x : Ms) (w : World) : (binOp .eql 74 (.agg #[.int .u8 x.kind, .int .i64 x.k, .int .i64 x.t, .int .i64 x.v, .int .i64 x.time, .int .i64 x.rk, .int .i64 x.rs, .int .i64 x.re, .int .i64 x.ra, .int .i64 x.rb]) (.agg #[.int .u8 x.kind, .int .i64 x.k, .int .i64 x.t, .int .i64 x.v, .int .i64 x.time, .int .i64 x.rk, .int .i64 x.rs, .int .i64 x.re, .int .i64 x.ra, .int .i64 x.rb])).run Try.prog w = .ok (.bool true) w := by
  have harr := eql_arr2
  go_simp
/-- A time; a mark. -/
def istime (t : Int) : Bool := decide (-1099511627776 ≤ t ∧ t ≤ 1099511627776)
def ismark (t : Int) : Bool := decide ((-1099511627776 ≤ t ∧ t ≤ 1099511627776) ∨ t = 9223372036854775807)
def isrow (s e : Int) : Bool := decide (-2199023255552 ≤ s ∧ s < e ∧ e ≤ 2199023255552)
/-- A message that is valid. -/
def msok (m : Ms) : Bool :=
  if m.kind = 1 ∨ m.kind = 4 then istime m.t && decide (m = { kind := m.kind, k := m.k, t := m.t, v := m.v, time := 0, rk := 0, rs := 0, re := 0, ra := 0, rb := 0 })
  else if m.kind = 2 then ismark m.time && decide (m = { kind := m.kind, k := 0, t := 0, v := 0, time := m.time, rk := 0, rs := 0, re := 0, ra := 0, rb := 0 })
  else if m.kind = 3 then isrow m.rs m.re && decide (m = { kind := m.kind, k := 0, t := 0, v := 0, time := 0, rk := m.rk, rs := m.rs, re := m.re, ra := m.ra, rb := m.rb })
  else false
theorem istime_any (t : Int) (w : World) : Calls Try.prog 112 #[.int .i64 t] w fun e w' => e = .returned (.bool (istime t)) ∧ w = w' := by
  go_enter Try.func112, Try.ntmps112
  go_wp2
  all_goals (go_ret; exact ⟨ret_bool (by unfold istime; grind), rfl⟩)
theorem ismark_any (t : Int) (w : World) : Calls Try.prog 113 #[.int .i64 t] w fun e w' => e = .returned (.bool (ismark t)) ∧ w = w' := by
  obtain ⟨b, hb⟩ : ∃ b, b = istime t := ⟨_, rfl⟩
  have ht := fun W => istime_any t W
  rw [← hb] at ht
  have HT := Lib.hid ht
  have hm : ismark t = (b || t == 9223372036854775807) := by
    rw [hb]
    unfold ismark istime
    rw [Bool.eq_iff_iff]
    simp
  have HM := Lib.hid hm
  clear ht hb hm
  rcases b with _ | _
  all_goals
    go_enter Try.func113, Try.ntmps113
    go_wp2_with (go_at_call 112; refine (HT.out _).mono ?_; rintro e w1 ⟨rfl, rfl⟩)
    go_ret
    exact ⟨ret_bool (by rw [HM.out]; first | rfl | simp), rfl⟩
theorem rright25_any (k t v : Int) (w : World) : Calls Try.prog 102 #[.agg #[.int .i64 k, .int .i64 t, .int .i64 v]] w fun e w' => e = .returned (.bool (istime t)) ∧ Below w.heap.size w w' := by
  go_enter Try.func102, Try.ntmps102
  go_wp2
  all_goals (go_ret; exact ⟨ret_bool (by unfold istime; grind), (by repeat (first | with_reducible exact Below.refl _ _ | with_reducible assumption | (with_reducible exact Env.below (by assumption)) | (with_reducible refine below_new ?_ _) | (with_reducible refine below_drew ?_) | (with_reducible refine below_drewN ?_ _) | (with_reducible refine below_put ?_ ?_ _; rotate_left 1; (dsimp only; omega)) | (with_reducible refine below_then ?_ (by assumption))))⟩)
theorem rmark_any (t : Int) (w : World) : Calls Try.prog 103 #[.int .i64 t] w fun e w' => e = .returned (.bool (ismark t)) ∧ w = w' := by
  go_enter Try.func103, Try.ntmps103
  go_wp2
  all_goals (go_ret; exact ⟨ret_bool (by unfold ismark; grind), rfl⟩)
theorem rrow25_any (k s e a b : Int) (w : World) : Calls Try.prog 104 #[.agg #[.int .i64 k, .int .i64 s, .int .i64 e, .int .i64 a, .int .i64 b]] w fun r w' => r = .returned (.bool (isrow s e)) ∧ Below w.heap.size w w' := by
  go_enter Try.func104, Try.ntmps104
  go_wp2
  all_goals (go_ret; exact ⟨ret_bool (by unfold isrow; grind), (by repeat (first | with_reducible exact Below.refl _ _ | with_reducible assumption | (with_reducible exact Env.below (by assumption)) | (with_reducible refine below_new ?_ _) | (with_reducible refine below_drew ?_) | (with_reducible refine below_drewN ?_ _) | (with_reducible refine below_put ?_ ?_ _; rotate_left 1; (dsimp only; omega)) | (with_reducible refine below_then ?_ (by assumption))))⟩)

set_option maxHeartbeats 4000000 in
set_option maxRecDepth 100000 in
theorem valid_any (kd k t v tm rk rs re ra rb : Int) (w : World) : Calls Try.prog 70 #[.agg #[.int .u8 kd, .int .i64 k, .int .i64 t, .int .i64 v, .int .i64 tm, .int .i64 rk, .int .i64 rs, .int .i64 re, .int .i64 ra, .int .i64 rb]] w fun e w' => e = .returned (.bool (msok (⟨kd, k, t, v, tm, rk, rs, re, ra, rb⟩ : Ms))) ∧ Below w.heap.size w w' := by
  obtain ⟨R, hR⟩ : ∃ R, R = msok (⟨kd, k, t, v, tm, rk, rs, re, ra, rb⟩ : Ms) := ⟨_, rfl⟩
  rw [← hR]
  by_cases h1 : kd = 1
  · subst h1
    obtain ⟨B, hB⟩ : ∃ B, B = istime t := ⟨_, rfl⟩
    have hc := fun W => rright25_any k t v W
    rw [← hB] at hc
    have HC := Lib.hid hc
    clear hc
    by_cases he : tm = 0 ∧ rk = 0 ∧ rs = 0 ∧ re = 0 ∧ ra = 0 ∧ rb = 0
    · obtain ⟨rfl, rfl, rfl, rfl, rfl, rfl⟩ := he
      have hv : R = B := by rw [hR, hB]; simp [msok]
      subst hv
      have hrun := eql_ms' (⟨1, k, t, v, 0, 0, 0, 0, 0, 0⟩ : Ms)
      dsimp only at hrun
      clear hR hB
      rcases R with _ | _
      all_goals
        have hL : Loc w [] := trivial
        go_enter Try.func70, Try.ntmps70
        go_wp2_with ((go_at_call 102; refine (HC.out _).mono ?_; rintro r w1 ⟨rfl, hb1⟩; replace hL := (by with_reducible first | exact hL.below hb1 | exact (hL.new _ _).below hb1 | exact ((hL.new _ _).new _ _).below hb1 | exact (((hL.new _ _).new _ _).new _ _).below hb1 | exact ((((hL.new _ _).new _ _).new _ _).new _ _).below hb1); (repeat rw [World.size_alloc] at hL); have hF := hL; (repeat unfold Loc at hF)))
        go_ret
        exact ⟨rfl, (by repeat (first | with_reducible exact Below.refl _ _ | with_reducible assumption | (with_reducible exact Env.below (by assumption)) | (with_reducible refine below_new ?_ _) | (with_reducible refine below_drew ?_) | (with_reducible refine below_drewN ?_ _) | (with_reducible refine below_put ?_ ?_ _; rotate_left 1; (dsimp only; omega)) | (with_reducible refine below_then ?_ (by assumption))))⟩
    · have hv : R = false := by rw [hR]; simp only [msok, Ms.mk.injEq]; simp; intros; omega
      subst hv
      have hne : (⟨1, k, t, v, tm, rk, rs, re, ra, rb⟩ : Ms) ≠ ⟨1, k, t, v, 0, 0, 0, 0, 0, 0⟩ := by simp only [ne_eq, Ms.mk.injEq]; omega
      have hrun := eql_ms hne
      dsimp only at hrun
      clear hR hB he hne
      rcases B with _ | _
      all_goals
        have hL : Loc w [] := trivial
        go_enter Try.func70, Try.ntmps70
        go_wp2_with ((go_at_call 102; refine (HC.out _).mono ?_; rintro r w1 ⟨rfl, hb1⟩; replace hL := (by with_reducible first | exact hL.below hb1 | exact (hL.new _ _).below hb1 | exact ((hL.new _ _).new _ _).below hb1 | exact (((hL.new _ _).new _ _).new _ _).below hb1 | exact ((((hL.new _ _).new _ _).new _ _).new _ _).below hb1); (repeat rw [World.size_alloc] at hL); have hF := hL; (repeat unfold Loc at hF)))
        go_ret
        exact ⟨rfl, (by repeat (first | with_reducible exact Below.refl _ _ | with_reducible assumption | (with_reducible exact Env.below (by assumption)) | (with_reducible refine below_new ?_ _) | (with_reducible refine below_drew ?_) | (with_reducible refine below_drewN ?_ _) | (with_reducible refine below_put ?_ ?_ _; rotate_left 1; (dsimp only; omega)) | (with_reducible refine below_then ?_ (by assumption))))⟩
  by_cases h4 : kd = 4
  · subst h4
    obtain ⟨B, hB⟩ : ∃ B, B = istime t := ⟨_, rfl⟩
    have hc := fun W => rright25_any k t v W
    rw [← hB] at hc
    have HC := Lib.hid hc
    clear hc
    by_cases he : tm = 0 ∧ rk = 0 ∧ rs = 0 ∧ re = 0 ∧ ra = 0 ∧ rb = 0
    · obtain ⟨rfl, rfl, rfl, rfl, rfl, rfl⟩ := he
      have hv : R = B := by rw [hR, hB]; simp [msok]
      subst hv
      have hrun := eql_ms' (⟨4, k, t, v, 0, 0, 0, 0, 0, 0⟩ : Ms)
      dsimp only at hrun
      clear hR hB
      rcases R with _ | _
      all_goals
        have hL : Loc w [] := trivial
        go_enter Try.func70, Try.ntmps70
        go_wp2_with ((go_at_call 102; refine (HC.out _).mono ?_; rintro r w1 ⟨rfl, hb1⟩; replace hL := (by with_reducible first | exact hL.below hb1 | exact (hL.new _ _).below hb1 | exact ((hL.new _ _).new _ _).below hb1 | exact (((hL.new _ _).new _ _).new _ _).below hb1 | exact ((((hL.new _ _).new _ _).new _ _).new _ _).below hb1); (repeat rw [World.size_alloc] at hL); have hF := hL; (repeat unfold Loc at hF)))
        go_ret
        exact ⟨rfl, (by repeat (first | with_reducible exact Below.refl _ _ | with_reducible assumption | (with_reducible exact Env.below (by assumption)) | (with_reducible refine below_new ?_ _) | (with_reducible refine below_drew ?_) | (with_reducible refine below_drewN ?_ _) | (with_reducible refine below_put ?_ ?_ _; rotate_left 1; (dsimp only; omega)) | (with_reducible refine below_then ?_ (by assumption))))⟩
    · have hv : R = false := by rw [hR]; simp only [msok, Ms.mk.injEq]; simp; intros; omega
      subst hv
      have hne : (⟨4, k, t, v, tm, rk, rs, re, ra, rb⟩ : Ms) ≠ ⟨4, k, t, v, 0, 0, 0, 0, 0, 0⟩ := by simp only [ne_eq, Ms.mk.injEq]; omega
      have hrun := eql_ms hne
      dsimp only at hrun
      clear hR hB he hne
      rcases B with _ | _
      all_goals
        have hL : Loc w [] := trivial
        go_enter Try.func70, Try.ntmps70
        go_wp2_with ((go_at_call 102; refine (HC.out _).mono ?_; rintro r w1 ⟨rfl, hb1⟩; replace hL := (by with_reducible first | exact hL.below hb1 | exact (hL.new _ _).below hb1 | exact ((hL.new _ _).new _ _).below hb1 | exact (((hL.new _ _).new _ _).new _ _).below hb1 | exact ((((hL.new _ _).new _ _).new _ _).new _ _).below hb1); (repeat rw [World.size_alloc] at hL); have hF := hL; (repeat unfold Loc at hF)))
        go_ret
        exact ⟨rfl, (by repeat (first | with_reducible exact Below.refl _ _ | with_reducible assumption | (with_reducible exact Env.below (by assumption)) | (with_reducible refine below_new ?_ _) | (with_reducible refine below_drew ?_) | (with_reducible refine below_drewN ?_ _) | (with_reducible refine below_put ?_ ?_ _; rotate_left 1; (dsimp only; omega)) | (with_reducible refine below_then ?_ (by assumption))))⟩
  by_cases h2 : kd = 2
  · subst h2
    obtain ⟨B, hB⟩ : ∃ B, B = ismark tm := ⟨_, rfl⟩
    have hc := fun W => rmark_any tm W
    rw [← hB] at hc
    have HC := Lib.hid hc
    clear hc
    by_cases he : k = 0 ∧ t = 0 ∧ v = 0 ∧ rk = 0 ∧ rs = 0 ∧ re = 0 ∧ ra = 0 ∧ rb = 0
    · obtain ⟨rfl, rfl, rfl, rfl, rfl, rfl, rfl, rfl⟩ := he
      have hv : R = B := by rw [hR, hB]; simp [msok]
      subst hv
      have hrun := eql_ms' (⟨2, 0, 0, 0, tm, 0, 0, 0, 0, 0⟩ : Ms)
      dsimp only at hrun
      clear hR hB
      rcases R with _ | _
      all_goals
        have hL : Loc w [] := trivial
        go_enter Try.func70, Try.ntmps70
        go_wp2_with ((go_at_call 103; refine (HC.out _).mono ?_; rintro r w1 ⟨rfl, rfl⟩))
        go_ret
        exact ⟨rfl, (by repeat (first | with_reducible exact Below.refl _ _ | with_reducible assumption | (with_reducible exact Env.below (by assumption)) | (with_reducible refine below_new ?_ _) | (with_reducible refine below_drew ?_) | (with_reducible refine below_drewN ?_ _) | (with_reducible refine below_put ?_ ?_ _; rotate_left 1; (dsimp only; omega)) | (with_reducible refine below_then ?_ (by assumption))))⟩
    · have hv : R = false := by rw [hR]; simp only [msok, Ms.mk.injEq]; simp; intros; omega
      subst hv
      have hne : (⟨2, k, t, v, tm, rk, rs, re, ra, rb⟩ : Ms) ≠ ⟨2, 0, 0, 0, tm, 0, 0, 0, 0, 0⟩ := by simp only [ne_eq, Ms.mk.injEq]; omega
      have hrun := eql_ms hne
      dsimp only at hrun
      clear hR hB he hne
      rcases B with _ | _
      all_goals
        have hL : Loc w [] := trivial
        go_enter Try.func70, Try.ntmps70
        go_wp2_with ((go_at_call 103; refine (HC.out _).mono ?_; rintro r w1 ⟨rfl, rfl⟩))
        go_ret
        exact ⟨rfl, (by repeat (first | with_reducible exact Below.refl _ _ | with_reducible assumption | (with_reducible exact Env.below (by assumption)) | (with_reducible refine below_new ?_ _) | (with_reducible refine below_drew ?_) | (with_reducible refine below_drewN ?_ _) | (with_reducible refine below_put ?_ ?_ _; rotate_left 1; (dsimp only; omega)) | (with_reducible refine below_then ?_ (by assumption))))⟩
  by_cases h3 : kd = 3
  · subst h3
    obtain ⟨B, hB⟩ : ∃ B, B = isrow rs re := ⟨_, rfl⟩
    have hc := fun W => rrow25_any rk rs re ra rb W
    rw [← hB] at hc
    have HC := Lib.hid hc
    clear hc
    by_cases he : k = 0 ∧ t = 0 ∧ v = 0 ∧ tm = 0
    · obtain ⟨rfl, rfl, rfl, rfl⟩ := he
      have hv : R = B := by rw [hR, hB]; simp [msok]
      subst hv
      have hrun := eql_ms' (⟨3, 0, 0, 0, 0, rk, rs, re, ra, rb⟩ : Ms)
      dsimp only at hrun
      clear hR hB
      rcases R with _ | _
      all_goals
        have hL : Loc w [] := trivial
        go_enter Try.func70, Try.ntmps70
        go_wp2_with ((go_at_call 104; refine (HC.out _).mono ?_; rintro r w1 ⟨rfl, hb1⟩; replace hL := (by with_reducible first | exact hL.below hb1 | exact (hL.new _ _).below hb1 | exact ((hL.new _ _).new _ _).below hb1 | exact (((hL.new _ _).new _ _).new _ _).below hb1 | exact ((((hL.new _ _).new _ _).new _ _).new _ _).below hb1); (repeat rw [World.size_alloc] at hL); have hF := hL; (repeat unfold Loc at hF)))
        go_ret
        exact ⟨rfl, (by repeat (first | with_reducible exact Below.refl _ _ | with_reducible assumption | (with_reducible exact Env.below (by assumption)) | (with_reducible refine below_new ?_ _) | (with_reducible refine below_drew ?_) | (with_reducible refine below_drewN ?_ _) | (with_reducible refine below_put ?_ ?_ _; rotate_left 1; (dsimp only; omega)) | (with_reducible refine below_then ?_ (by assumption))))⟩
    · have hv : R = false := by rw [hR]; simp only [msok, Ms.mk.injEq]; simp; intros; omega
      subst hv
      have hne : (⟨3, k, t, v, tm, rk, rs, re, ra, rb⟩ : Ms) ≠ ⟨3, 0, 0, 0, 0, rk, rs, re, ra, rb⟩ := by simp only [ne_eq, Ms.mk.injEq]; omega
      have hrun := eql_ms hne
      dsimp only at hrun
      clear hR hB he hne
      rcases B with _ | _
      all_goals
        have hL : Loc w [] := trivial
        go_enter Try.func70, Try.ntmps70
        go_wp2_with ((go_at_call 104; refine (HC.out _).mono ?_; rintro r w1 ⟨rfl, hb1⟩; replace hL := (by with_reducible first | exact hL.below hb1 | exact (hL.new _ _).below hb1 | exact ((hL.new _ _).new _ _).below hb1 | exact (((hL.new _ _).new _ _).new _ _).below hb1 | exact ((((hL.new _ _).new _ _).new _ _).new _ _).below hb1); (repeat rw [World.size_alloc] at hL); have hF := hL; (repeat unfold Loc at hF)))
        go_ret
        exact ⟨rfl, (by repeat (first | with_reducible exact Below.refl _ _ | with_reducible assumption | (with_reducible exact Env.below (by assumption)) | (with_reducible refine below_new ?_ _) | (with_reducible refine below_drew ?_) | (with_reducible refine below_drewN ?_ _) | (with_reducible refine below_put ?_ ?_ _; rotate_left 1; (dsimp only; omega)) | (with_reducible refine below_then ?_ (by assumption))))⟩
  have hv : R = false := by rw [hR]; simp [msok, h1, h2, h3, h4]
  subst hv
  have k1 : (kd == 1) = false := by simp [h1]
  have k2 : (kd == 2) = false := by simp [h2]
  have k3 : (kd == 3) = false := by simp [h3]
  have k4 : (kd == 4) = false := by simp [h4]
  clear hR h1 h2 h3 h4
  go_enter Try.func70, Try.ntmps70
  go_wp2
  go_ret
  exact ⟨rfl, (by repeat (first | with_reducible exact Below.refl _ _ | with_reducible assumption | (with_reducible exact Env.below (by assumption)) | (with_reducible refine below_new ?_ _) | (with_reducible refine below_drew ?_) | (with_reducible refine below_drewN ?_ _) | (with_reducible refine below_put ?_ ?_ _; rotate_left 1; (dsimp only; omega)) | (with_reducible refine below_then ?_ (by assumption))))⟩
end Go.Proofs.Ytffehibdeogjeaa
