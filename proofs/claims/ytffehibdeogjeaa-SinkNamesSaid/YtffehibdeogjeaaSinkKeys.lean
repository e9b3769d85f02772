/- The reference's comparing of lists of numbers, and the numbers of rows and of records (chapter 34). Condition: lists of at most 1000 numbers. -/
import Derived.Test.YtffehibdeogjeaaSinkFuncs
namespace Go.Proofs.Ytffehibdeogjeaa
open Go.RowKit

/-- Which list of numbers is the lesser one. -/
def lowL : List Int → List Int → Bool
  | [], _ => false
  | _ :: _, [] => false
  | x :: xs, y :: ys => if x = y then lowL xs ys else decide (x < y)
theorem lowL_skip : ∀ (k : Nat) (xs ys : List Int), xs.take k = ys.take k → k ≤ xs.length → k ≤ ys.length → lowL xs ys = lowL (xs.drop k) (ys.drop k)
  | 0, _, _, _, _, _ => rfl
  | k + 1, [], _, _, h, _ => by simp at h
  | k + 1, _ :: _, [], _, _, h => by simp at h
  | k + 1, x :: xs, y :: ys, h, h1, h2 => by
    simp only [List.take_succ_cons, List.cons.injEq] at h
    obtain ⟨rfl, h⟩ := h
    rw [lowL, if_pos rfl, List.drop_succ_cons, List.drop_succ_cons]
    exact lowL_skip k xs ys h (by simpa using h1) (by simpa using h2)
theorem drop_cons {α : Type} {l : List α} {k : Nat} {x : α} (h : l[k]? = some x) : l.drop k = x :: l.drop (k + 1) := by
  have hk : k < l.length := (List.getElem?_eq_some_iff.1 h).1
  rw [List.getElem?_eq_getElem hk] at h
  rw [List.drop_eq_getElem_cons hk, Option.some.inj h]
theorem ik_at {w : World} {B : Nat} {A : Option Addr} {l : List Int} (h : Rd ienc 1 w B A l) {k : Nat} {x : Int} (hx : l[k]? = some x) : ∃ b off, A = some ⟨b, off, none⟩ ∧ b < B ∧ w.cell? ⟨b, off + k, none⟩ = some (.int .i64 x) := by
  obtain ⟨b, off, e, hb, hc⟩ := h.at_ hx
  exact ⟨b, off, e, hb, by simpa using hc 0 _ rfl⟩
set_option maxHeartbeats 2000000 in
theorem lower_any (A A' : Option Addr) (c c' n : Nat) (xs ys : List Int) (w : World) (hx : xs.length = n) (hy : ys.length = n) (hn : n ≤ 1000) (hl : Rd ienc 1 w w.heap.size A xs) (hm : Rd ienc 1 w w.heap.size A' ys) :
    Calls Try.prog 125 #[.slice A n c, .slice A' n c'] w fun e w' => e = .returned (.bool (lowL xs ys)) ∧ ∃ q, w' = w.drewN q := by
  have HX := Lib.hid hx; have HY := Lib.hid hy
  clear hx hy
  go_enter Try.func125, Try.ntmps125
  go_wp2
  go_loopw [5] (fun i wr => ∃ k : Nat, k ≤ n ∧ i = .int .i64 k ∧ xs.take k = ys.take k ∧ ∃ q : Nat, wr = w.drewN q) (fun i _ => n - (intOf i).toNat)
  case atStart => exact ⟨0, Nat.zero_le _, rfl, by simp, 0, rfl⟩
  case round =>
    obtain ⟨k, hk, rfl, hall, q, rfl⟩ := hrel
    by_cases hlt : k < n
    · obtain ⟨x, hx⟩ : ∃ x, xs[k]? = some x := ⟨_, List.getElem?_eq_getElem (by rw [HX.out]; exact hlt)⟩
      obtain ⟨y, hy⟩ : ∃ x, ys[k]? = some x := ⟨_, List.getElem?_eq_getElem (by rw [HY.out]; exact hlt)⟩
      obtain ⟨b, off, rfl, hb, f1⟩ := ik_at hl hx
      obtain ⟨b', off', rfl, hb', g1⟩ := ik_at hm hy
      have e1 : IntKind.i64.wrap ((k : Int) + 1) = (k : Int) + 1 := IntWalk.i64_in _ (by omega)
      have hsk := lowL_skip k xs ys hall (by rw [HX.out]; exact hk) (by rw [HY.out]; exact hk)
      rw [drop_cons hx, drop_cons hy, lowL] at hsk
      by_cases he : x = y
      · subst he
        have hall' : xs.take (k + 1) = ys.take (k + 1) := take_step hall hx hy
        have HA := Lib.hid hall'
        have d1 : (x != x) = false := by simp
        clear hl hm hall hx hy hsk hall'
        go_wp2
        go_quiet (fail)
        go_wp2
        go_roundw
        case rel => exact ⟨k + 1, by omega, by go_num, HA.out, _, rfl⟩
        case measure => simp [intOf]; omega
      · rw [if_neg he] at hsk
        have HS := Lib.hid hsk
        have d1 : (x != y) = true := by simp [he]
        clear hl hm hall hx hy hsk he
        go_wp2
        go_quiet (fail)
        go_wp2_with fail
        go_quiet (fail)
        go_wp2
        go_ret
        exact ⟨ret_bool HS.out.symm, _, by rw [World.drewN_drewN, World.drewN_drewN]⟩
    · have hkn : k = n := by omega
      rw [hkn] at hall
      rw [List.take_of_length_le (by rw [HX.out]; exact Nat.le_refl _), List.take_of_length_le (by rw [HY.out]; exact Nat.le_refl _)] at hall
      have hself : ∀ l : List Int, lowL l l = false := by
        intro l
        induction l with
        | nil => rfl
        | cons a l ih => rw [lowL, if_pos rfl, ih]
      have hf : lowL xs ys = false := by rw [hall]; exact hself ys
      have HF := Lib.hid hf
      clear hall hkn hself hf
      go_wp2
      go_ret
      exact ⟨ret_bool HF.out.symm, q, rfl⟩
/-- The numbers by which rows, and records, are in order. -/
def wkey (x : Rw) : List Int := [x.e, x.s, x.k, x.a, x.b]
def rkey (x : Rc) : List Int := [x.t, x.k, x.v]
theorem low_w (x y : Rw) : lowL (wkey x) (wkey y) = wlt x y := by
  unfold wkey wlt lowL lowL lowL lowL lowL lowL
  grind
theorem low_r (x y : Rc) : lowL (rkey x) (rkey y) = rlt x y := by
  unfold rkey rlt lowL lowL lowL lowL
  grind
theorem wkey_len (x : Rw) : (wkey x).length = 5 := rfl
theorem rkey_len (x : Rc) : (rkey x).length = 3 := rfl
theorem rd_new_at (W : World) (xs : List Int) (t : TypeId) (vs : Array Value) (g : Nat) (hv : vs = (xs.map (Value.int .i64)).toArray) (hg : g = W.heap.size) : Rd ienc 1 (W.alloc (.cells vs t)) (W.alloc (.cells vs t)).heap.size (some ⟨g, 0, none⟩) xs := by
  subst hv hg
  exact (rd_new W xs t).more (by rw [World.size_alloc]; exact Nat.le_refl _)
theorem rkrow_any (x : Rw) (w : World) : Calls Try.prog 124 #[.agg #[.int .i64 x.k, .int .i64 x.s, .int .i64 x.e, .int .i64 x.a, .int .i64 x.b]] w fun r w' => ∃ A, r = .returned (.slice A 5 5) ∧ Rd ienc 1 w' w'.heap.size A (wkey x) ∧ (∀ ad, A = some ad → w.heap.size ≤ ad.block ∧ ad.block < w'.heap.size) ∧ Below w.heap.size w w' := by
  go_enter Try.func124, Try.ntmps124
  go_wp2
  go_ret
  refine ⟨_, rfl, rd_new_at _ (wkey x) _ _ _ rfl ?_, ?_, (by repeat (first | with_reducible exact Below.refl _ _ | with_reducible assumption | (with_reducible exact Env.below (by assumption)) | (with_reducible refine below_new ?_ _) | (with_reducible refine below_drew ?_) | (with_reducible refine below_drewN ?_ _) | (with_reducible refine below_put ?_ ?_ _; rotate_left 1; (dsimp only; omega)) | (with_reducible refine below_then ?_ (by assumption))))⟩
  · simp
  · intro ad h; injection h with h; subst h; simp
theorem rkrec_any (x : Rc) (w : World) : Calls Try.prog 93 #[.agg #[.int .i64 x.k, .int .i64 x.t, .int .i64 x.v]] w fun r w' => ∃ A, r = .returned (.slice A 3 3) ∧ Rd ienc 1 w' w'.heap.size A (rkey x) ∧ (∀ ad, A = some ad → w.heap.size ≤ ad.block ∧ ad.block < w'.heap.size) ∧ Below w.heap.size w w' := by
  go_enter Try.func93, Try.ntmps93
  go_wp2
  go_ret
  refine ⟨_, rfl, rd_new_at _ (rkey x) _ _ _ rfl ?_, ?_, (by repeat (first | with_reducible exact Below.refl _ _ | with_reducible assumption | (with_reducible exact Env.below (by assumption)) | (with_reducible refine below_new ?_ _) | (with_reducible refine below_drew ?_) | (with_reducible refine below_drewN ?_ _) | (with_reducible refine below_put ?_ ?_ _; rotate_left 1; (dsimp only; omega)) | (with_reducible refine below_then ?_ (by assumption))))⟩
  · simp
  · intro ad h; injection h with h; subst h; simp
end Go.Proofs.Ytffehibdeogjeaa
