/- Lemmas and contracts for the statement, joined into one text: Timers, Entries, Entries2. The conditions of each stand at its head. -/
import Derived.Test.YtnljihjhmgpcoaaGreatJ4
import Derived.Test.YtnljihjhmgpcoaaGreatJ5
import Derived.StillTailTactics
import Derived.Test.YtnljihjhmgpcoaaGreatJ1
namespace Go.Proofs.YtnljihjhmgpcoaaGreat
open Go.RowKit
theorem cmp_still (a b : Int) (w : World) : Calls Tryz.prog 43 #[.int .i64 a, .int .i64 b] w fun e w' => e = .returned (.int .i64 (cmpI a b)) ∧ w' = w :=
 (cmp_any a b w).mono fun _ _ h => ⟨h.1, h.2.symm⟩
theorem region_still_tail {P : Program} {id : Nat} {Q : Exit → Act → World → Prop} {a : Act} {w : World} {l : List Oper} (n : Nat) (hm : P.follows .mixedOrders = true) (hB : Region.lexTailB .any l.toArray n = true)
  (h : wpStill P l.toArray w.drew (fun a' => wpList P l.toArray Q (l.drop n) a' w.drew) (l.take n) a) : (Code.region id l.toArray true).wp P Q a w := wp_region_still_tail n hm hB h
/-- A timer: where its span begins and ends, and its key. -/
structure Tm where
 s : Int
 e : Int
 k : Int
deriving DecidableEq
instance : Inhabited Tm := ⟨⟨0, 0, 0⟩⟩
def t0 : Tm := ⟨0, 0, 0⟩
/-- What is right. -/
def tok (t : Tm) : Prop := -1100585369600 ≤ t.s ∧ t.s < t.e ∧ t.e ≤ 1100585369600
instance (t : Tm) : Decidable (tok t) := by unfold tok; infer_instance
/-- An entry: key, span, the accumulators of both sides. -/
structure En where
 k : Int
 s : Int
 e : Int
 c1 : Int
 s1 : Int
 m1 : Int
 x1 : Int
 c2 : Int
 s2 : Int
 m2 : Int
 x2 : Int
deriving DecidableEq
instance : Inhabited En := ⟨⟨0, 0, 0, 0, 0, 0, 0, 0, 0, 0, 0⟩⟩
def enenc (x : En) : List Value := [.int .i64 x.k, .int .i64 x.s, .int .i64 x.e, .int .i64 x.c1, .int .i64 x.s1, .int .i64 x.m1, .int .i64 x.x1, .int .i64 x.c2, .int .i64 x.s2, .int .i64 x.m2, .int .i64 x.x2]
theorem enenc_len (x : En) : (enenc x).length = 11 := rfl
theorem enenc_one (l : List En) : ∀ u ∈ l.flatMap enenc, u.oneCell' = true := by
 intro u hu
 obtain ⟨x, _, hx⟩ := List.mem_flatMap.1 hu
 simp [enenc] at hx
 rcases hx with rfl | rfl | rfl | rfl | rfl | rfl | rfl | rfl | rfl | rfl | rfl <;> rfl
theorem en_cells {w : World} {B : Nat} {A : Option Addr} {l : List En} (h : Rd enenc 11 w B A l) {k : Nat} {x : En} (hx : l[k]? = some x) :
  ∃ b off, A = some ⟨b, off, none⟩ ∧ b < B ∧ w.cell? ⟨b, off + k * 11, none⟩ = some (.int .i64 x.k) ∧ w.cell? ⟨b, off + k * 11 + 1, none⟩ = some (.int .i64 x.s) ∧ w.cell? ⟨b, off + k * 11 + 2, none⟩ = some (.int .i64 x.e) ∧ w.cell? ⟨b, off + k * 11 + 3, none⟩ = some (.int .i64 x.c1) ∧ w.cell? ⟨b, off + k * 11 + 4, none⟩ = some (.int .i64 x.s1) ∧ w.cell? ⟨b, off + k * 11 + 5, none⟩ = some (.int .i64 x.m1) ∧ w.cell? ⟨b, off + k * 11 + 6, none⟩ = some (.int .i64 x.x1) ∧ w.cell? ⟨b, off + k * 11 + 7, none⟩ = some (.int .i64 x.c2) ∧ w.cell? ⟨b, off + k * 11 + 8, none⟩ = some (.int .i64 x.s2) ∧ w.cell? ⟨b, off + k * 11 + 9, none⟩ = some (.int .i64 x.m2) ∧ w.cell? ⟨b, off + k * 11 + 10, none⟩ = some (.int .i64 x.x2) := by
 obtain ⟨b, off, e, hb, hc⟩ := h.at_ hx
 exact ⟨b, off, e, hb, by simpa using hc 0 _ rfl, hc 1 _ rfl, hc 2 _ rfl, hc 3 _ rfl, hc 4 _ rfl, hc 5 _ rfl, hc 6 _ rfl, hc 7 _ rfl, hc 8 _ rfl, hc 9 _ rfl, hc 10 _ rfl⟩
/-- One comes before another one: by the end, the start, the key. -/
def enlt (a b : En) : Bool := decide (a.e < b.e ∨ (a.e = b.e ∧ (a.s < b.s ∨ (a.s = b.s ∧ a.k < b.k))))
def encmp (a b : En) : Int := orL [cmpI a.e b.e, cmpI a.s b.s, cmpI a.k b.k]
theorem encmp_ge (a b : En) : decide (0 ≤ encmp a b) = !enlt a b := by
 unfold enlt encmp
 rw [Bool.eq_iff_iff]
 simp only [decide_eq_true_eq, Bool.not_eq_true', decide_eq_false_iff_not]
 unfold orL orL orL orL cmpI
 grind
set_option maxHeartbeats 4000000 in
set_option maxRecDepth 100000 in
theorem order17_any (a b : En) (w : World) : Calls Tryz.prog 88 #[.agg #[.int .i64 a.k, .int .i64 a.s, .int .i64 a.e, .int .i64 a.c1, .int .i64 a.s1, .int .i64 a.m1, .int .i64 a.x1, .int .i64 a.c2, .int .i64 a.s2, .int .i64 a.m2, .int .i64 a.x2], .agg #[.int .i64 b.k, .int .i64 b.s, .int .i64 b.e, .int .i64 b.c1, .int .i64 b.s1, .int .i64 b.m1, .int .i64 b.x1, .int .i64 b.c2, .int .i64 b.s2, .int .i64 b.m2, .int .i64 b.x2]] w fun e w' => e = .returned (.int .i64 (encmp a b)) ∧ Below w.heap.size w w' := by
 have hor := Lib.hid (show orL [cmpI a.e b.e, cmpI a.s b.s, cmpI a.k b.k] = encmp a b from rfl)
 go_enter Tryz.func88, Tryz.ntmps88
 go_wp2_with fail
 refine region_still_tail 19 (by kernel_rfl) (by kernel_rfl) ?_
 simp only [List.take_succ_cons, List.take_zero, List.drop_succ_cons, List.drop_zero]
 repeat still_step
 still_call (cmp_still _ _ _)
 repeat still_step
 still_call (cmp_still _ _ _)
 repeat still_step
 still_call (cmp_still _ _ _)
 repeat still_step
 refine wpStill_nil ?_
 go_wp2_with (first
   | (go_at_call 42; refine (or3 (cmpI a.e b.e) (cmpI a.s b.s) (cmpI a.k b.k) _ _ (by simp) (by go_simp) (by go_simp) (by go_simp)).mono ?_; rintro e w1 ⟨rfl, rfl⟩))
 go_ret
 exact ⟨ret_i64 hor.out, bel⟩
/-- An accumulator that is right. -/
def accok (c s m x : Int) : Bool := decide ((c = 0 ∧ s = 0 ∧ m = 0 ∧ x = 0) ∨ (c = 1 ∧ s = m ∧ s = x) ∨ (1 < c ∧ c ≤ 1073741824 ∧ m ≤ x))
def accerr (c s m x : Int) : Int := if accok c s m x = true then 0 else 8
set_option maxHeartbeats 1000000 in
theorem acchk_any (c s m x : Int) (w : World) : Calls Tryz.prog 44 #[.agg #[.int .i64 c, .int .i64 s, .int .i64 m, .int .i64 x]] w fun e w' => e = .returned (.int .i64 (accerr c s m x)) ∧ Below w.heap.size w w' := by
 go_enter Tryz.func44, Tryz.ntmps44
 go_wp2
 all_goals (go_ret; exact ⟨ret_i64 (by unfold accerr accok; grind), bel⟩)
/-- An entry that is right. -/
def enok (x : En) : Bool := decide (-1100585369600 ≤ x.s ∧ x.s < x.e ∧ x.e ≤ 1100585369600) && (accok x.c1 x.s1 x.m1 x.x1 && (accok x.c2 x.s2 x.m2 x.x2 && decide (0 < x.c1 + x.c2)))
theorem accok_c {c s m x : Int} (h : accok c s m x = true) : 0 ≤ c ∧ c ≤ 1073741824 := by
 unfold accok at h
 have := of_decide_eq_true h
 omega
set_option maxHeartbeats 4000000 in
set_option maxRecDepth 100000 in
theorem enright_any (x : En) (w : World) : Calls Tryz.prog 87 #[.agg #[.int .i64 x.k, .int .i64 x.s, .int .i64 x.e, .int .i64 x.c1, .int .i64 x.s1, .int .i64 x.m1, .int .i64 x.x1, .int .i64 x.c2, .int .i64 x.s2, .int .i64 x.m2, .int .i64 x.x2]] w fun e w' => e = .returned (.bool (enok x)) ∧ Below w.heap.size w w' := by
 obtain ⟨p1, hp1⟩ : ∃ b, decide (x.s < -1100585369600) = b := ⟨_, rfl⟩
 obtain ⟨p2, hp2⟩ : ∃ b, decide (x.e ≤ x.s) = b := ⟨_, rfl⟩
 obtain ⟨p3, hp3⟩ : ∃ b, decide (1100585369600 < x.e) = b := ⟨_, rfl⟩
 obtain ⟨q1, hq1⟩ : ∃ b, b = accok x.c1 x.s1 x.m1 x.x1 := ⟨_, rfl⟩
 obtain ⟨q2, hq2⟩ : ∃ b, b = accok x.c2 x.s2 x.m2 x.x2 := ⟨_, rfl⟩
 obtain ⟨q3, hq3⟩ : ∃ b, decide (0 < x.c1 + x.c2) = b := ⟨_, rfl⟩
 have hv : enok x = ((!p1 && (!p2 && !p3)) && (q1 && (q2 && q3))) := by
  unfold enok
  rw [← hq1, ← hq2, hq3, ← hp1, ← hp2, ← hp3]
  congr 1
  rw [Bool.eq_iff_iff]
  simp
 rw [hv]
 have h1 := fun W => acchk_any x.c1 x.s1 x.m1 x.x1 W
 have h2 := fun W => acchk_any x.c2 x.s2 x.m2 x.x2 W
 unfold accerr at h1 h2
 rw [← hq1] at h1
 rw [← hq2] at h2
 have H1 := Lib.hid h1; have H2 := Lib.hid h2
 have hL : Loc w [] := trivial
 have hsum : q1 = true → q2 = true → IntKind.i64.wrap (x.c1 + x.c2) = x.c1 + x.c2 := fun a b => by
  rw [a] at hq1
  rw [b] at hq2
  have c1 := accok_c hq1.symm
  have c2 := accok_c hq2.symm
  exact IntWalk.i64_in _ (by omega)
 have HS := Lib.hid hsum
 clear hv h1 h2 hsum hq1 hq2
 rcases p1 with _ | _
 ·rcases p2 with _ | _
  ·rcases p3 with _ | _
   ·rcases q1 with _ | _
    ·go_enter Tryz.func87, Tryz.ntmps87
     go_wp2_with (go_at_call 44; refine (H1.out _).mono ?_; rintro r w1 ⟨rfl, hb1⟩; replace hL := kp hb1; (repeat rw [World.size_alloc] at hL); have hF := hL; (repeat unfold Loc at hF))
     go_ret
     exact ⟨rfl, blr⟩
    ·rcases q2 with _ | _
     ·go_enter Tryz.func87, Tryz.ntmps87
      go_wp2_with fail
      go_at_call 44
      refine (H1.out _).mono ?_
      rintro r w1 ⟨rfl, hb1⟩
      replace hL := kp hb1; (repeat rw [World.size_alloc] at hL); have hF := hL; (repeat unfold Loc at hF)
      go_wp2_with fail
      go_at_call 44
      refine (H2.out _).mono ?_
      rintro r w2 ⟨rfl, hb2⟩
      replace hL := kp hb2; (repeat rw [World.size_alloc] at hL); have hF := hL; (repeat unfold Loc at hF)
      go_wp2
      go_ret
      exact ⟨rfl, blr⟩
     ·have e1 := HS.out rfl rfl
      go_enter Tryz.func87, Tryz.ntmps87
      go_wp2_with fail
      go_at_call 44
      refine (H1.out _).mono ?_
      rintro r w1 ⟨rfl, hb1⟩
      replace hL := kp hb1; (repeat rw [World.size_alloc] at hL); have hF := hL; (repeat unfold Loc at hF)
      go_wp2_with fail
      go_at_call 44
      refine (H2.out _).mono ?_
      rintro r w2 ⟨rfl, hb2⟩
      replace hL := kp hb2; (repeat rw [World.size_alloc] at hL); have hF := hL; (repeat unfold Loc at hF)
      go_wp2
      go_ret
      exact ⟨ret_bool (by simp), blr⟩
   ·go_enter Tryz.func87, Tryz.ntmps87
    go_wp2
    go_ret
    exact ⟨rfl, blr⟩
  ·go_enter Tryz.func87, Tryz.ntmps87
   go_wp2
   go_ret
   exact ⟨rfl, blr⟩
 ·go_enter Tryz.func87, Tryz.ntmps87
  go_wp2
  go_ret
  exact ⟨rfl, blr⟩
end Go.Proofs.YtnljihjhmgpcoaaGreat
