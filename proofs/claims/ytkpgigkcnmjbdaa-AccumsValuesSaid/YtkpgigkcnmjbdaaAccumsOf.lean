/- The contract of 'of' (law 16): of the values of a slice, joined one by one, it returns their accumulator. Condition: at most 1000 values. -/
import Derived.Test.YtkpgigkcnmjbdaaAccums2
import Derived.Test.YtkpgigkcnmjbdaaReads
import Derived.Deep.DeepCutAuto
namespace Go.Proofs.Ytkpgigkcnmjbdaa
open Go.RowKit

def ienc (x : Int) : List Value := [.int .i64 x]
def afold (xs : List Int) : Acc := xs.foldl (fun a v => aboth a ⟨1, v, v, v⟩) ⟨0, 0, 0, 0⟩
theorem afold_snoc (xs : List Int) (v : Int) : afold (xs ++ [v]) = aboth (afold xs) ⟨1, v, v, v⟩ := by simp [afold]
theorem afold_ok (xs : List Int) (h : xs.length ≤ 1073741824) : (afold xs).ok ∧ (afold xs).c = xs.length := by
  suffices H : ∀ ys : List Int, ∀ a : Acc, a.ok → a.c + ys.length ≤ 1073741824 → (ys.foldl (fun a v => aboth a ⟨1, v, v, v⟩) a).ok ∧ (ys.foldl (fun a v => aboth a ⟨1, v, v, v⟩) a).c = a.c + ys.length by
    have := H xs ⟨0, 0, 0, 0⟩ (by decide) (by simp; omega)
    simpa [afold] using this
  intro ys
  induction ys with
  | nil => intro a ha _; simpa using ha
  | cons v ys ih =>
    intro a ha hl
    obtain ⟨c, s, m, x⟩ := a
    simp only [List.length_cons] at hl
    have h1 : (aboth ⟨c, s, m, x⟩ ⟨1, v, v, v⟩).ok ∧ (aboth ⟨c, s, m, x⟩ ⟨1, v, v, v⟩).c = c + 1 := by
      unfold aboth Acc.ok at *
      grind
    obtain ⟨i1, i2⟩ := ih _ h1.1 (by rw [h1.2]; omega)
    simp only [List.foldl_cons, List.length_cons]
    exact ⟨i1, by rw [i2, h1.2]; omega⟩
theorem ajoin_one {a : Acc} {v : Int} (h : a.ok) (hc : a.c < 1073741824) : ajoin a ⟨1, v, v, v⟩ = (aboth a ⟨1, v, v, v⟩, 0) := by
  have h1 : Acc.ok ⟨1, v, v, v⟩ := .inr (.inl ⟨rfl, rfl, rfl⟩)
  unfold ajoin
  rw [if_neg (by simp [h, h1]), if_neg (by simp; omega)]

set_option maxHeartbeats 4000000 in
theorem aofs_any (A : Option Addr) (cap : Nat) (xs : List Int) (w : World) (hr : Rd ienc 1 w w.heap.size A xs) (hn : xs.length ≤ 1000) :
    Calls Try.prog 40 #[.slice A xs.length cap] w fun e w' =>
      e = .returned (.tuple #[.agg #[.int .i64 (afold xs).c, .int .i64 (afold xs).s, .int .i64 (afold xs).m, .int .i64 (afold xs).x], .bool true]) ∧ Below w.heap.size w w' := by
  go_enter Try.func40, Try.ntmps40
  go_wp2
  go_loopw [5] (fun i wr => ∃ k : Nat, k ≤ xs.length ∧ i = .int .i64 k ∧ Env w [(w.heap.size + 1, [.int .i64 (afold (xs.take k)).c, .int .i64 (afold (xs.take k)).s, .int .i64 (afold (xs.take k)).m, .int .i64 (afold (xs.take k)).x]), (w.heap.size, [.int .i64 0, .int .i64 0, .int .i64 0, .int .i64 0])] wr)
    (fun i _ => xs.length - (intOf i).toNat)
  case atStart =>
    refine ⟨0, Nat.zero_le _, rfl, ?_, ?_⟩
    · exact (by repeat (first | exact Below.refl _ _ | assumption | (with_reducible exact Env.below (by assumption)) | (with_reducible refine below_new ?_ _) | (with_reducible refine below_drew ?_) | (with_reducible refine below_drewN ?_ _) | (with_reducible refine below_put ?_ ?_ _; rotate_left 1; (dsimp only; omega)) | (refine below_then ?_ (by assumption))))
    · have h0 : Loc w [] := trivial
      have := (h0.new [.int .i64 0, .int .i64 0, .int .i64 0, .int .i64 0] 38).new [.int .i64 0, .int .i64 0, .int .i64 0, .int .i64 0] 38
      simpa [afold] using this
  case round =>
    obtain ⟨k, hk, rfl, hE⟩ := hrel
    obtain ⟨a, ha⟩ : ∃ a, a = afold (xs.take k) := ⟨_, rfl⟩
    rw [← ha] at hE
    have hb := hE.1
    have hF := hE.2
    (repeat unfold Loc at hF)
    by_cases hlt : k < xs.length
    · have hx : xs[k]? = some xs[k] := List.getElem?_eq_getElem hlt
      obtain ⟨v, hv⟩ : ∃ v, v = xs[k] := ⟨_, rfl⟩
      rw [← hv] at hx
      obtain ⟨b, off, rfl, hbB, hcell⟩ := hr.at_ hx
      have hcw : w.cell? ⟨b, off + k, none⟩ = some (.int .i64 v) := by simpa using hcell 0 _ rfl
      have hcv : wr.cell? ⟨b, off + k, none⟩ = some (.int .i64 v) := (hb.cell hbB).trans hcw
      have hbl := Nat.lt_of_lt_of_le hbB hb.size
      have hts : afold (xs.take (k + 1)) = aboth a ⟨1, v, v, v⟩ := by
        rw [List.take_succ_eq_append_getElem hlt, afold_snoc, ← ha, ← hv]
      obtain ⟨ok1, ok2⟩ := afold_ok (xs.take k) (by simp; omega)
      rw [← ha] at ok1 ok2
      have hj := ajoin_one (v := v) ok1 (by rw [ok2]; simp; omega)
      have ha' := Lib.hid ha; have hx' := Lib.hid hx; have hv' := Lib.hid hv; have hts' := Lib.hid hts
      have hj1 : (ajoin a ⟨1, v, v, v⟩).2 = 0 := by rw [hj]
      have hj2 : (ajoin a ⟨1, v, v, v⟩).1 = aboth a ⟨1, v, v, v⟩ := by rw [hj]
      clear ha hx hv hts hj ok1 ok2 hcell
      obtain ⟨c, s, m, x⟩ := a
      have hR : ∀ w', Env w [(w.heap.size + 1, [.int .i64 c, .int .i64 s, .int .i64 m, .int .i64 x]), (w.heap.size, [.int .i64 0, .int .i64 0, .int .i64 0, .int .i64 0])] w' → Loc w' [(w.heap.size + 1, [.int .i64 c, .int .i64 s, .int .i64 m, .int .i64 x]), (w.heap.size, [.int .i64 0, .int .i64 0, .int .i64 0, .int .i64 0])] := fun _ h => h.2
      (repeat unfold Loc at hR)
      have hR2 : ∀ w', Env w [(w.heap.size + 1, [.int .i64 c, .int .i64 s, .int .i64 m, .int .i64 x]), (w.heap.size, [.int .i64 0, .int .i64 0, .int .i64 0, .int .i64 0])] w' → w'.cell? ⟨b, off + k, none⟩ = some (.int .i64 v) := fun _ h => (h.1.cell hbB).trans hcw
      go_wp2
      go_region_held3 (Env w [(w.heap.size + 1, [.int .i64 c, .int .i64 s, .int .i64 m, .int .i64 x]), (w.heap.size, [.int .i64 0, .int .i64 0, .int .i64 0, .int .i64 0])])
        (first | assumption | exact Env.step (by assumption) (by assumption) | exact Env.old (by assumption) _ | exact Env.drew hE | exact hE | exact Env.drew (by assumption) | exact Env.drew (Env.old (by assumption) _) | ((repeat first | refine Env.far0 ?_ (by assumption) _ | refine Env.far1 ?_ (by assumption) _ | refine Env.farA ?_ (by assumption) _); assumption))
        (first
          | (go_at_call 35; refine (aof_any _ _).mono ?_; rintro e w1 ⟨rfl, hb1⟩; have hEhb1 := Env.step hb1 (by assumption); (try (have hqhb1 := (by with_reducible first | exact Loc.below hb1 (Loc.new (Loc.nil _) _ _) | exact Loc.below hb1 (Loc.drew (Loc.new (Loc.nil _) _ _)) | exact Loc.below hb1 (by assumption : Loc _ [_])); (repeat rw [World.size_drew] at hqhb1); (repeat rw [World.size_alloc] at hqhb1); have hrhb1 := hqhb1; (repeat unfold Loc at hrhb1))))
          | (go_at_call 29; refine (ajoin_any _ _ _ _ _ _ _ _ _).mono ?_; rintro e w2 ⟨rfl, hb2⟩; have hEhb2 := Env.step hb2 (by assumption); (try (have hqhb2 := (by with_reducible first | exact Loc.below hb2 (Loc.new (Loc.nil _) _ _) | exact Loc.below hb2 (Loc.drew (Loc.new (Loc.nil _) _ _)) | exact Loc.below hb2 (by assumption : Loc _ [_])); (repeat rw [World.size_drew] at hqhb2); (repeat rw [World.size_alloc] at hqhb2); have hrhb2 := hqhb2; (repeat unfold Loc at hrhb2)))))
      all_goals
        go_wp2
        go_roundw
        case rel => exact ⟨k + 1, by omega, by go_num, by rw [hts'.out]; first | exact Env.put4 (by (first | assumption | exact Env.step (by assumption) (by assumption) | exact Env.old (by assumption) _ | exact Env.drew hE | exact hE | exact Env.drew (by assumption) | exact Env.drew (Env.old (by assumption) _) | ((repeat first | refine Env.far0 ?_ (by assumption) _ | refine Env.far1 ?_ (by assumption) _ | refine Env.farA ?_ (by assumption) _); assumption))) (by omega) (by simp) _ _ _ _ | exact Env.old (Env.put4 (by (first | assumption | exact Env.step (by assumption) (by assumption) | exact Env.old (by assumption) _ | exact Env.drew hE | exact hE | exact Env.drew (by assumption) | exact Env.drew (Env.old (by assumption) _) | ((repeat first | refine Env.far0 ?_ (by assumption) _ | refine Env.far1 ?_ (by assumption) _ | refine Env.farA ?_ (by assumption) _); assumption))) (by omega) (by simp) _ _ _ _) _⟩
        case measure => simp [intOf]; omega
    · obtain rfl : k = xs.length := by omega
      rw [List.take_length] at ha
      obtain ⟨c, s, m, x⟩ := a
      have ha' := Lib.hid ha; clear ha
      go_wp2
      refine bodyPost_ret (v := _) (by rw [results_cell_tmp Try.results40]; go_simp; rfl) rfl ⟨?_, ?_⟩
      · rw [← ha'.out]
      · exact (by repeat (first | exact Below.refl _ _ | assumption | (with_reducible exact Env.below (by assumption)) | (with_reducible refine below_new ?_ _) | (with_reducible refine below_drew ?_) | (with_reducible refine below_drewN ?_ _) | (with_reducible refine below_put ?_ ?_ _; rotate_left 1; (dsimp only; omega)) | (refine below_then ?_ (by assumption))))
end Go.Proofs.Ytkpgigkcnmjbdaa
