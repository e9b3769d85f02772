/- The contracts of cmp.Compare at int64 and of cmp.Or at int. No condition. -/
import Derived.Test.YtffehibdeogjeaaRowLaws
import Derived.Test.YtffehibdeogjeaaInts
namespace Go.Proofs.Ytffehibdeogjeaa
open Go.RowKit

def cmpI (a b : Int) : Int := if a < b then -1 else if b < a then 1 else 0
theorem isNaN_any (a : Int) (w : World) : Calls Try.prog 121 #[.int .i64 a] w fun e w' => e = .returned (.bool false) ∧ w = w' := by
  go_enter Try.func121, Try.ntmps121
  go_wp2
  go_ret
  exact ⟨ret_bool (by simp), rfl⟩
set_option maxHeartbeats 400000 in
theorem cmp_any (a b : Int) (w : World) : Calls Try.prog 87 #[.int .i64 a, .int .i64 b] w fun e w' => e = .returned (.int .i64 (cmpI a b)) ∧ w = w' := by
  go_enter Try.func87, Try.ntmps87
  go_wp2_with (go_at_call 121; refine (isNaN_any _ _).mono ?_; rintro e w' ⟨rfl, rfl⟩)
  all_goals (go_ret; exact ⟨ret_i64 (by unfold cmpI; grind), rfl⟩)
/-- The first one that is not zero. -/
def orL : List Int → Int
  | [] => 0
  | x :: xs => if x = 0 then orL xs else x
theorem orL_append (xs ys : List Int) (h : ∀ x ∈ xs, x = 0) : orL (xs ++ ys) = orL ys := by
  induction xs with
  | nil => rfl
  | cons x xs ih =>
    rw [List.cons_append, orL, if_pos (h x (by simp)), ih (fun y hy => h y (by simp [hy]))]
set_option maxHeartbeats 1000000 in
theorem or_any (A : Option Addr) (c : Nat) (xs : List Int) (w : World) (hn : xs.length ≤ 1000000) (h : Rd ienc 1 w w.heap.size A xs) :
    Calls Try.prog 86 #[.slice A xs.length c] w fun e w' => e = .returned (.int .i64 (orL xs)) ∧ w = w' := by
  obtain ⟨n, hn'⟩ : ∃ n, n = xs.length := ⟨_, rfl⟩
  rw [← hn'] at hn ⊢
  have HN := Lib.hid hn'
  clear hn'
  go_enter Try.func86, Try.ntmps86
  go_wp2
  go_loop [8] (fun i => ∃ k : Nat, k ≤ n ∧ i = .int .i64 k ∧ ∀ x ∈ xs.take k, x = 0) (fun i => n - (intOf i).toNat)
  case atStart => exact ⟨0, Nat.zero_le _, rfl, by simp⟩
  case round =>
    obtain ⟨k, hk, rfl, hz⟩ := hrel
    by_cases hlt : k < n
    · have hkx : k < xs.length := by rw [← HN.out]; exact hlt
      have hx := List.getElem?_eq_getElem hkx
      have e1 : orL xs = orL (xs[k] :: xs.drop (k + 1)) := by
        rw [← List.drop_eq_getElem_cons hkx]
        conv => lhs; rw [← List.take_append_drop k xs]
        exact orL_append _ _ hz
      have e2 : xs.take (k + 1) = xs.take k ++ [xs[k]] := List.take_succ_eq_append_getElem hkx
      obtain ⟨x, hxe⟩ : ∃ x, x = xs[k] := ⟨_, rfl⟩
      rw [← hxe] at hx e1 e2
      obtain ⟨b, off, rfl, hb, hc⟩ := h.at_ hx
      have hc0 : w.cell? ⟨b, off + k, none⟩ = some (.int .i64 x) := by simpa using hc 0 _ rfl
      have E1 := Lib.hid e1; have E2 := Lib.hid e2; have HZ := Lib.hid hz
      clear hx hxe h hc e1 e2 hz
      by_cases hx0 : x = 0
      · have hb0 : (x != 0) = false := by simp [hx0]
        have H0 := Lib.hid hx0
        clear hx0
        go_wp2
        go_round
        case rel => exact ⟨k + 1, by omega, by go_num, by rw [E2.out]; intro y hy; rcases List.mem_append.1 hy with hy | hy; exact HZ.out y hy; rw [List.mem_singleton] at hy; rw [hy]; exact H0.out⟩
        case measure => simp [intOf]; omega
      · have hb0 : (x != 0) = true := by simp [hx0]
        have H0 := Lib.hid hx0
        clear hx0
        go_wp2
        go_ret
        exact ⟨ret_i64 (by rw [E1.out, orL, if_neg H0.out]), rfl⟩
    · have e1 : orL xs = 0 := by
        have : xs.take k = xs := List.take_of_length_le (by rw [← HN.out]; omega)
        rw [this] at hz
        have := orL_append xs [] hz
        simpa [orL] using this
      have E1 := Lib.hid e1
      clear e1 hz
      go_wp2
      go_ret
      exact ⟨ret_i64 (by rw [E1.out]), rfl⟩
/-! Of some, laid before. -/
theorem or2 (x y : Int) (g : Nat) (w : World) (hg : g < w.heap.size) (h0 : w.cell? ⟨g, 0, none⟩ = some (.int .i64 x)) (h1 : w.cell? ⟨g, 1, none⟩ = some (.int .i64 y)) : Calls Try.prog 86 #[.slice (some ⟨g, 0, none⟩) 2 2] w fun e w' =>
    e = .returned (.int .i64 (orL [x, y])) ∧ w = w' :=
  or_any (some ⟨g, 0, none⟩) 2 [x, y] w (by simp) fun _ => ⟨g, 0, rfl, hg, fun k x hx j u hu => by
    match j, hu with
    | 0, hu =>
    simp [ienc] at hu; subst hu
    match k, x, hx with
    | 0, x, hx => simp at hx; subst hx; exact h0
    | 1, x, hx => simp at hx; subst hx; exact h1⟩
theorem or3 (x y z : Int) (g : Nat) (w : World) (hg : g < w.heap.size) (h0 : w.cell? ⟨g, 0, none⟩ = some (.int .i64 x)) (h1 : w.cell? ⟨g, 1, none⟩ = some (.int .i64 y)) (h2 : w.cell? ⟨g, 2, none⟩ = some (.int .i64 z)) : Calls Try.prog 86 #[.slice (some ⟨g, 0, none⟩) 3 3] w fun e w' =>
    e = .returned (.int .i64 (orL [x, y, z])) ∧ w = w' :=
  or_any (some ⟨g, 0, none⟩) 3 [x, y, z] w (by simp) fun _ => ⟨g, 0, rfl, hg, fun k x hx j u hu => by
    match j, hu with
    | 0, hu =>
    simp [ienc] at hu; subst hu
    match k, x, hx with
    | 0, x, hx => simp at hx; subst hx; exact h0
    | 1, x, hx => simp at hx; subst hx; exact h1
    | 2, x, hx => simp at hx; subst hx; exact h2⟩
theorem or5 (a b x y z : Int) (g : Nat) (w : World) (hg : g < w.heap.size) (h0 : w.cell? ⟨g, 0, none⟩ = some (.int .i64 a)) (h1 : w.cell? ⟨g, 1, none⟩ = some (.int .i64 b)) (h2 : w.cell? ⟨g, 2, none⟩ = some (.int .i64 x)) (h3 : w.cell? ⟨g, 3, none⟩ = some (.int .i64 y)) (h4 : w.cell? ⟨g, 4, none⟩ = some (.int .i64 z)) : Calls Try.prog 86 #[.slice (some ⟨g, 0, none⟩) 5 5] w fun e w' =>
    e = .returned (.int .i64 (orL [a, b, x, y, z])) ∧ w = w' :=
  or_any (some ⟨g, 0, none⟩) 5 [a, b, x, y, z] w (by simp) fun _ => ⟨g, 0, rfl, hg, fun k x hx j u hu => by
    match j, hu with
    | 0, hu =>
    simp [ienc] at hu; subst hu
    match k, x, hx with
    | 0, x, hx => simp at hx; subst hx; exact h0
    | 1, x, hx => simp at hx; subst hx; exact h1
    | 2, x, hx => simp at hx; subst hx; exact h2
    | 3, x, hx => simp at hx; subst hx; exact h3
    | 4, x, hx => simp at hx; subst hx; exact h4⟩
end Go.Proofs.Ytffehibdeogjeaa
