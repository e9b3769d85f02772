/- The law AccumsValues (chapter 16): of some values the aggregates are their number, their wrapping sum, the least and the greatest one. No condition. -/
import Derived.Test.YtkpgigkcnmjbdaaAccumsLaws
import Derived.Test.YtkpgigkcnmjbdaaOpen
namespace Go.Proofs.Ytkpgigkcnmjbdaa
open Go.RowKit Go.ChangeShapes Go.WideShapes Go.ChangeAt

set_option maxHeartbeats 400000 in
theorem do_add (a b : Int) (w : World) :
    Calls Try.prog 41 #[.int .u8 8, .int .i64 a, .int .i64 b] w fun e w' => e = .returned (.tuple #[.int .i64 (wrap64 (a + b)), .int .i64 0]) ∧ w = w' := by
  go_enter Try.func41, Try.ntmps41
  go_wp2
  go_ret2
  exact ⟨rfl, rfl⟩

def i64ok (x : Int) : Prop := (Lit.int .i64 x).wf = true
theorem ienc_dec (vs : List Value) (h : FitsL [some .i64] vs) : ∃ x, vs = ienc x ∧ i64ok x := by
  obtain ⟨n, vs', rfl, hw, rfl⟩ := h
  exact ⟨n, rfl, hw⟩

/-- The least and the greatest one, and the sum. -/
def lmin : List Int → Int
  | [] => 0
  | x :: xs => xs.foldl min x
def lmax : List Int → Int
  | [] => 0
  | x :: xs => xs.foldl max x
theorem foldl_min (xs : List Int) : ∀ a b : Int, xs.foldl min (min a b) = min a (xs.foldl min b) := by
  induction xs with
  | nil => intro a b; rfl
  | cons x xs ih => intro a b; rw [List.foldl_cons, List.foldl_cons, Int.min_assoc, ih]
theorem foldl_max (xs : List Int) : ∀ a b : Int, xs.foldl max (max a b) = max a (xs.foldl max b) := by
  induction xs with
  | nil => intro a b; rfl
  | cons x xs ih => intro a b; rw [List.foldl_cons, List.foldl_cons, Int.max_assoc, ih]
theorem lmin_append {xs ys : List Int} (hx : xs ≠ []) (hy : ys ≠ []) : lmin (xs ++ ys) = min (lmin xs) (lmin ys) := by
  match xs, ys, hx, hy with
  | x :: xs, y :: ys, _, _ =>
    simp only [lmin, List.cons_append, List.foldl_append, List.foldl_cons]
    exact foldl_min ys _ _
theorem lmax_append {xs ys : List Int} (hx : xs ≠ []) (hy : ys ≠ []) : lmax (xs ++ ys) = max (lmax xs) (lmax ys) := by
  match xs, ys, hx, hy with
  | x :: xs, y :: ys, _, _ =>
    simp only [lmax, List.cons_append, List.foldl_append, List.foldl_cons]
    exact foldl_max ys _ _
/-- The accumulator of some values. -/
def accOf (xs : List Int) : Acc := if xs = [] then ⟨0, 0, 0, 0⟩ else ⟨xs.length, wrap64 xs.sum, lmin xs, lmax xs⟩
theorem aboth_accOf (xs ys : List Int) : aboth (accOf xs) (accOf ys) = accOf (xs ++ ys) := by
  by_cases hx : xs = []
  · subst hx; simp [accOf, aboth]
  · by_cases hy : ys = []
    · subst hy
      have : xs.length ≠ 0 := by simpa using hx
      simp [accOf, hx, aboth]
    · have h1 : xs ++ ys ≠ [] := by simp [hx]
      have h2 : (xs.length : Int) ≠ 0 := by have : xs.length ≠ 0 := by simpa using hx
                                            omega
      have h3 : (ys.length : Int) ≠ 0 := by have : ys.length ≠ 0 := by simpa using hy
                                            omega
      unfold accOf aboth
      simp only [hx, hy, h1, if_false]
      rw [if_neg h2, if_neg h3, lmin_append hx hy, lmax_append hx hy]
      simp only [List.length_append, List.sum_append, wrap64_add_l, wrap64_add_r, Int.natCast_add]
theorem accOf_one {v : Int} (h : i64ok v) : accOf [v] = ⟨1, v, v, v⟩ := by
  have : wrap64 v = v := IntWalk.wrap64_in _ (bounds_i64 h)
  simp [accOf, lmin, lmax, this]
theorem afold_accOf (xs : List Int) (h : ∀ x ∈ xs, i64ok x) : afold xs = accOf xs := by
  suffices H : ∀ n, ∀ xs : List Int, xs.length = n → (∀ x ∈ xs, i64ok x) → afold xs = accOf xs from H _ xs rfl h
  intro n
  induction n with
  | zero => intro xs hl _; rw [List.eq_nil_of_length_eq_zero hl]; rfl
  | succ n ih =>
    intro xs hl hx
    have hne : xs ≠ [] := by intro e; rw [e] at hl; simp at hl
    rw [← List.dropLast_concat_getLast hne] at hx ⊢
    rw [afold_snoc, ih _ (by simp [hl]) (fun x hx' => hx x (List.mem_append_left _ hx')), ← accOf_one (hx _ (by simp)), aboth_accOf]

theorem rd_take {α : Type} {enc : α → List Value} {sz : Nat} {w : World} {B : Nat} {A : Option Addr} {l : List α} (h : Rd enc sz w B A l) (j : Nat) : Rd enc sz w B A (l.take j) := fun hn => by
  obtain ⟨b, off, e, hb, hc⟩ := h (by rintro rfl; simp at hn)
  exact ⟨b, off, e, hb, fun k x hx => hc k x (by rw [List.getElem?_take] at hx; split at hx; exact hx; cases hx)⟩
theorem loc_drewN {w : World} {l : List (Nat × List Value)} (h : Loc w l) (n : Nat) : Loc (w.drewN n) l := h.below (below_drewN (Below.refl _ _) n)
theorem aofs_len (A : Option Addr) (cap n : Nat) (xs : List Int) (w : World) (hr : Rd ienc 1 w w.heap.size A xs) (hn : xs.length = n) (h : n ≤ 1000) :
    Calls Try.prog 40 #[.slice A n cap] w fun e w' =>
      e = .returned (.tuple #[.agg #[.int .i64 (afold xs).c, .int .i64 (afold xs).s, .int .i64 (afold xs).m, .int .i64 (afold xs).x], .bool true]) ∧ Below w.heap.size w w' := by
  subst hn; exact aofs_any A cap xs w hr h

theorem join_plain {xs : List Int} {cut n : Nat} {c1 s1 m1 x1 c2 s2 m2 x2 : Int} (lw : ∀ x ∈ xs, i64ok x) (hn : n = xs.length) (h1 : 1 ≤ n) (h2 : n ≤ 60)
    (hF : afold (xs.take cut) = ⟨c1, s1, m1, x1⟩) (hB : afold (xs.drop cut) = ⟨c2, s2, m2, x2⟩) :
    ajoin ⟨c2, s2, m2, x2⟩ ⟨c1, s1, m1, x1⟩ = (⟨n, wrap64 xs.sum, lmin xs, lmax xs⟩, 0) ∧ Acc.ok ⟨n, wrap64 xs.sum, lmin xs, lmax xs⟩ := by
  obtain ⟨o1, e1⟩ := afold_ok (xs.take cut) (by simp; omega)
  obtain ⟨o2, e2⟩ := afold_ok (xs.drop cut) (by simp; omega)
  have l1 : (xs.take cut).length + (xs.drop cut).length = n := by rw [← List.length_append, List.take_append_drop, hn]
  have a1 := afold_accOf (xs.take cut) (fun x hx => lw x (List.mem_of_mem_take hx))
  have a2 := afold_accOf (xs.drop cut) (fun x hx => lw x (List.mem_of_mem_drop hx))
  have hc : (afold (xs.drop cut)).c + (afold (xs.take cut)).c ≤ 1073741824 := by omega
  have hj := ajoin_ok o2 o1 hc
  have hne : xs ≠ [] := by rintro rfl; simp at hn; omega
  have hJ : aboth (afold (xs.drop cut)) (afold (xs.take cut)) = ⟨n, wrap64 xs.sum, lmin xs, lmax xs⟩ := by
    rw [aboth_comm o2 o1, a1, a2, aboth_accOf, List.take_append_drop, accOf, if_neg hne, hn]
  have hk := (aboth_ok o2 o1 hc).1
  rw [hJ] at hj hk
  rw [hF, hB] at hj
  exact ⟨hj, hk⟩
theorem values_plain {n : Nat} {s m x : Int} (h1 : 1 ≤ n) (h : Acc.ok ⟨n, s, m, x⟩) : avalue 1 ⟨n, s, m, x⟩ = ((n : Int), 0) ∧ avalue 2 ⟨n, s, m, x⟩ = (s, 0) ∧ avalue 3 ⟨n, s, m, x⟩ = (m, 0) ∧ avalue 4 ⟨n, s, m, x⟩ = (x, 0) := by
  have hn : ¬ n = 0 := by omega
  simp [avalue, atold, h, hn]
theorem lmin_all {xs : List Int} {x0 : Int} (h : xs[0]? = some x0) : xs.foldl min x0 = lmin xs ∧ xs.foldl max x0 = lmax xs := by
  match xs, h with
  | x :: xs, h =>
    simp at h; subst h
    simp [lmin, lmax]

set_option maxRecDepth 100000 in
set_option maxHeartbeats 4000000 in
theorem accumsValues_no (A : Option Addr) (c : Nat) (xs : List Int) (lm : xs.length ≤ maxLen) (cut : Int) (w : World) (h : ¬ (1 ≤ xs.length ∧ xs.length ≤ 60 ∧ 0 ≤ cut ∧ cut ≤ xs.length)) :
    Calls Try.prog 17 #[.slice A xs.length c, .int .i64 cut] w fun e w' => e = .returned (.bool true) ∧ Below w.heap.size w w' := by
  unfold maxLen at lm
  have hL : Loc w [] := trivial
  have H := Lib.hid h
  clear h
  go_enter Try.func17, Try.ntmps17
  go_wp2_with (go_at_call 27; refine (alive16 _).mono ?_; rintro r w1 ⟨rfl, hb1⟩; replace hL := (by with_reducible first | exact hL.below hb1 | exact (hL.new _ _).below hb1 | exact ((hL.new _ _).new _ _).below hb1 | exact (((hL.new _ _).new _ _).new _ _).below hb1 | exact ((((hL.new _ _).new _ _).new _ _).new _ _).below hb1); (repeat rw [World.size_alloc] at hL); have hF := hL; (repeat unfold Loc at hF))
  all_goals first
    | (go_ret; exact ⟨rfl, (by repeat (first | exact Below.refl _ _ | assumption | (with_reducible exact Env.below (by assumption)) | (with_reducible refine below_new ?_ _) | (with_reducible refine below_drew ?_) | (with_reducible refine below_drewN ?_ _) | (with_reducible refine below_put ?_ ?_ _; rotate_left 1; (dsimp only; omega)) | (refine below_then ?_ (by assumption))))⟩)
    | (exfalso; have h := H.out; grind)

set_option maxHeartbeats 16000000 in
set_option maxRecDepth 100000 in
theorem accumsValues_yes (w : World) (A : Option Addr) (c : Nat) (xs : List Int) (lc : xs.length ≤ c) (lm : c ≤ maxLen) (lw : ∀ x ∈ xs, i64ok x) (lr : Rd ienc 1 w w.heap.size A xs) (cut : Nat)
    (h1 : 1 ≤ xs.length) (h2 : xs.length ≤ 60) (h4 : cut ≤ xs.length) :
    Calls Try.prog 17 #[.slice A xs.length c, .int .i64 cut] w fun e w' => e = .returned (.bool true) ∧ Below w.heap.size w w' := by
  unfold maxLen at lm
  have hL : Loc w [] := trivial
  obtain ⟨n, hn⟩ : ∃ n, n = xs.length := ⟨_, rfl⟩
  rw [← hn] at lc h1 h2 h4 ⊢
  have HN := Lib.hid hn
  clear hn
  have hx0 : xs[0]? = some (xs[0]'(by rw [← HN.out]; omega)) := List.getElem?_eq_getElem (by rw [← HN.out]; omega)
  obtain ⟨x0, hxe⟩ : ∃ x, x = xs[0]'(by rw [← HN.out]; omega) := ⟨_, rfl⟩
  rw [← hxe] at hx0
  have HX0 := Lib.hid hx0
  obtain ⟨b, off, rfl, -, -⟩ := lr.at_ hx0
  clear hx0 hxe
  have d1 : decide ((n : Int) < 1) = false := by simp; omega
  have d2 : decide (60 < (n : Int)) = false := by simp; omega
  have d3 : decide ((cut : Int) < 0) = false := by simp
  have d4 : decide (n < cut) = false := by simp; omega
  go_enter Try.func17, Try.ntmps17
  go_wp2_with (first
    | (go_at_call 27; refine (alive16 _).mono ?_; rintro r w1 ⟨rfl, hb1⟩; replace hL := (by with_reducible first | exact hL.below hb1 | exact (hL.new _ _).below hb1 | exact ((hL.new _ _).new _ _).below hb1 | exact (((hL.new _ _).new _ _).new _ _).below hb1 | exact ((((hL.new _ _).new _ _).new _ _).new _ _).below hb1); (repeat rw [World.size_alloc] at hL); have hF := hL; (repeat unfold Loc at hF))
    | (go_at_call 40; fail))
  have lr1 := lr.grow hb1
  refine (aofs_len _ c cut (xs.take cut) w1 (rd_take lr1 _) (by rw [List.length_take, ← HN.out]; omega) (by omega)).mono ?_
  obtain ⟨⟨c1, s1, m1, x1⟩, hF⟩ : ∃ p, afold (xs.take cut) = p := ⟨_, rfl⟩
  obtain ⟨⟨c2, s2, m2, x2⟩, hB⟩ : ∃ p, afold (xs.drop cut) = p := ⟨_, rfl⟩
  rw [hF]
  dsimp only
  have HF := Lib.hid hF; have HB := Lib.hid hB
  clear hF hB
  rintro r w2 ⟨rfl, hb2⟩
  replace hL := (by with_reducible first | exact hL.below hb2 | exact (hL.new _ _).below hb2 | exact ((hL.new _ _).new _ _).below hb2 | exact (((hL.new _ _).new _ _).new _ _).below hb2 | exact ((((hL.new _ _).new _ _).new _ _).new _ _).below hb2); (repeat rw [World.size_alloc] at hL); have hF := hL; (repeat unfold Loc at hF)
  have lr2 := lr1.grow hb2
  have hcut := Rd.cut lr2 cut xs.length (by rw [← HN.out]; omega) (Nat.le_refl _) (by rw [← HN.out]; exact lc)
  rw [List.take_length] at hcut
  go_wp2_with fail
  all_goals
    first
      | (have h2 : cut = c := h.symm
         clear h
         subst h2
         rw [if_pos rfl] at hcut
         refine (aofs_len (some ⟨b, off, none⟩) 0 (n - cut) (xs.drop cut) _ ((hcut.alloc (Nat.le_refl _) _).more (by simp)) (by rw [List.length_drop, ← HN.out]) (by omega)).mono ?_)
      | (rw [if_neg h] at hcut
         have hcut2 : Rd ienc 1 w2 w2.heap.size (some ⟨b, off + cut, none⟩) (xs.drop cut) := by
           have e : (⟨b, off, none⟩ : Addr).add (cut * 1) = ⟨b, off + cut, none⟩ := by unfold Addr.add; split <;> simp_all
           rw [← e]; exact hcut
         refine (aofs_len (some ⟨b, off + cut, none⟩) (c - cut) (n - cut) (xs.drop cut) _ ((hcut2.alloc (Nat.le_refl _) _).more (by simp)) (by rw [List.length_drop, ← HN.out]) (by omega)).mono ?_
         clear hcut2)
    rw [HB.out]
    dsimp only
    rintro r w3 ⟨rfl, hb3⟩
    replace hL := (by with_reducible first | exact hL.below hb3 | exact (hL.new _ _).below hb3 | exact ((hL.new _ _).new _ _).below hb3 | exact (((hL.new _ _).new _ _).new _ _).below hb3 | exact ((((hL.new _ _).new _ _).new _ _).new _ _).below hb3); (repeat rw [World.size_alloc] at hL); have hF := hL; (repeat unfold Loc at hF)
    obtain ⟨hj, hok⟩ := join_plain lw HN.out h1 h2 HF.out HB.out
    obtain ⟨v1, v2, v3, v4⟩ := values_plain h1 hok
    obtain ⟨S, hS⟩ : ∃ S, S = wrap64 xs.sum := ⟨_, rfl⟩
    obtain ⟨mn, hmn⟩ : ∃ m, m = lmin xs := ⟨_, rfl⟩
    obtain ⟨mx, hmx⟩ : ∃ m, m = lmax xs := ⟨_, rfl⟩
    rw [← hS, ← hmn, ← hmx] at hj v1 v2 v3 v4
    have HS := Lib.hid hS; have HMN := Lib.hid hmn; have HMX := Lib.hid hmx
    clear hS hmn hmx hok hcut
    go_wp2_with (first
      | (go_at_call 29; refine (ajoin_any _ _ _ _ _ _ _ _ _).mono ?_; rw [hj]; dsimp only; clear hj; rintro r w4 ⟨rfl, hb4⟩; replace hL := (by with_reducible first | exact hL.below hb4 | exact (hL.new _ _).below hb4 | exact ((hL.new _ _).new _ _).below hb4 | exact (((hL.new _ _).new _ _).new _ _).below hb4 | exact ((((hL.new _ _).new _ _).new _ _).new _ _).below hb4); (repeat rw [World.size_alloc] at hL); have hF := hL; (repeat unfold Loc at hF)))
    have lr4 := ((lr2.alloc (Nat.le_refl _) _).more (by simp)).grow hb3
    replace lr4 := ((lr4.alloc (Nat.le_refl _) _).more (by simp)).grow hb4
    obtain ⟨b', off', e', hbB, hcell⟩ := lr4.at_ HX0.out
    simp only [Option.some.injEq, Addr.mk.injEq, and_true] at e'
    obtain ⟨rfl, rfl⟩ := e'
    have hc0 : w4.cell? ⟨b, off, none⟩ = some (.int .i64 x0) := by simpa using hcell 0 _ rfl
    have hall : ∀ (k : Nat) (x : Int), xs[k]? = some x → w4.cell? ⟨b, off + k, none⟩ = some (.int .i64 x) := fun k x hx => by
      obtain ⟨b', off', e, _, hc⟩ := lr4.at_ hx
      simp only [Option.some.injEq, Addr.mk.injEq, and_true] at e
      obtain ⟨rfl, rfl⟩ := e
      simpa using hc 0 _ rfl
    have HALL := Lib.hid hall
    have L5 := Loc.new (Loc.nil w4) [.int .i64 n, .int .i64 S, .int .i64 mn, .int .i64 mx] 38
    obtain ⟨w5, hw5⟩ : ∃ w5, w4.alloc (.cells #[.int .i64 n, .int .i64 S, .int .i64 mn, .int .i64 mx] 38) = w5 := ⟨_, rfl⟩
    have hb5 : Below w.heap.size w w5 := by rw [← hw5]; exact (by repeat (first | exact Below.refl _ _ | assumption | (with_reducible exact Env.below (by assumption)) | (with_reducible refine below_new ?_ _) | (with_reducible refine below_drew ?_) | (with_reducible refine below_drewN ?_ _) | (with_reducible refine below_put ?_ ?_ _; rotate_left 1; (dsimp only; omega)) | (refine below_then ?_ (by assumption))))
    have hc5 : w5.cell? ⟨b, off, none⟩ = some (.int .i64 x0) := by rw [← hw5]; exact (Below.cell (Below.alloc (Below.refl w4.heap.size w4) (Nat.le_refl _) _) hbB).trans hc0
    have hall5 : ∀ (k : Nat) (x : Int), xs[k]? = some x → w5.cell? ⟨b, off + k, none⟩ = some (.int .i64 x) := fun k x hx => by
      rw [← hw5]; exact (Below.cell (p := ⟨b, off + k, none⟩) (Below.alloc (Below.refl w4.heap.size w4) (Nat.le_refl _) _) hbB).trans (HALL.out k x hx)
    have L5' : Loc w5 [(w4.heap.size, [.int .i64 n, .int .i64 S, .int .i64 mn, .int .i64 mx])] := by rw [← hw5]; exact L5
    rw [hw5]
    obtain ⟨B5, hB5⟩ : ∃ B, B = w4.heap.size := ⟨_, rfl⟩
    rw [← hB5] at L5' ⊢
    have HA := Lib.hid hall5
    clear hw5 hc0 hcell hall HALL L5 hB5 lr lr1 lr2 lr4 hF hL hall5 hbB hb1 hb2 hb3 hb4
    go_quiet (fail)
    go_wp2
    go_loopw [12, 13, 14, 15] (fun s m x i wr => ∃ k : Nat, k ≤ n ∧ i = .int .i64 k ∧ s = .int .i64 (wrap64 (xs.take k).sum) ∧ m = .int .i64 ((xs.take k).foldl min x0) ∧ x = .int .i64 ((xs.take k).foldl max x0) ∧ ∃ q : Nat, wr = w5.drewN q) (fun _ _ _ i _ => n - (intOf i).toNat)
    case atStart => exact ⟨0, Nat.zero_le _, rfl, by simp; decide +kernel, rfl, rfl, _, rfl⟩
    case round =>
      obtain ⟨k, hk, rfl, rfl, rfl, rfl, q, rfl⟩ := hrel
      by_cases hlt : k < n
      · have hkx : k < xs.length := by rw [← HN.out]; exact hlt
        have hx := List.getElem?_eq_getElem hkx
        obtain ⟨v, hv⟩ : ∃ v, v = xs[k] := ⟨_, rfl⟩
        have hts : xs.take (k + 1) = xs.take k ++ [v] := by rw [hv, List.take_succ_eq_append_getElem hkx]
        rw [← hv] at hx
        have hcv := HA.out k v hx
        obtain ⟨s0, hs0⟩ : ∃ s, s = wrap64 (xs.take k).sum := ⟨_, rfl⟩
        obtain ⟨m0, hm0⟩ : ∃ s, s = (xs.take k).foldl min x0 := ⟨_, rfl⟩
        obtain ⟨y0, hy0⟩ : ∃ s, s = (xs.take k).foldl max x0 := ⟨_, rfl⟩
        have e1 : wrap64 (xs.take (k + 1)).sum = wrap64 (s0 + v) := by rw [hts, hs0, wrap64_add_l]; simp
        have e2 : (xs.take (k + 1)).foldl min x0 = if v < m0 then v else m0 := by rw [hts, hm0]; simp; split <;> omega
        have e3 : (xs.take (k + 1)).foldl max x0 = if y0 < v then v else y0 := by rw [hts, hy0]; simp; split <;> omega
        rw [← hs0, ← hm0, ← hy0]
        have E1 := Lib.hid e1; have E2 := Lib.hid e2; have E3 := Lib.hid e3
        clear hx hv hts hkx hs0 hm0 hy0 e1 e2 e3
        go_wp2_with (go_at_call 41; refine (do_add _ _ _).mono ?_; rintro r w' ⟨rfl, rfl⟩)
        go_quiet (fail)
        obtain ⟨m2, hm2⟩ : ∃ m, m = (if v < m0 then v else m0) := ⟨_, rfl⟩
        obtain ⟨y2, hy2⟩ : ∃ m, m = (if y0 < v then v else y0) := ⟨_, rfl⟩
        rw [← hm2] at E2 ⊢
        rw [← hy2] at E3 ⊢
        clear hm2 hy2
        go_wp2
        go_roundw
        case rel => exact ⟨k + 1, by omega, by go_num, by rw [E1.out], by rw [E2.out], by rw [E3.out], _, rfl⟩
        case measure => simp [intOf]; omega
      · obtain rfl : k = n := by omega
        obtain ⟨y1, y2⟩ := lmin_all HX0.out
        rw [List.take_of_length_le (by rw [← HN.out]; omega), y1, y2, ← HS.out, ← HMN.out, ← HMX.out]
        have hL := loc_drewN L5' q
        have hF := hL
        (repeat unfold Loc at hF)
        have hbq : Below w.heap.size w (w5.drewN q) := below_drewN hb5 _
        clear y1 y2 hb5 L5'
        go_wp2_with (go_at_call 32; refine (avalue_any _ _ _ _ _ _).mono ?_; rintro r w6 ⟨rfl, hb6⟩; replace hL := (by with_reducible first | exact hL.below hb6 | exact (hL.new _ _).below hb6 | exact ((hL.new _ _).new _ _).below hb6 | exact (((hL.new _ _).new _ _).new _ _).below hb6 | exact ((((hL.new _ _).new _ _).new _ _).new _ _).below hb6); (repeat rw [World.size_alloc] at hL); have hF := hL; (repeat unfold Loc at hF))
        go_ret
        exact ⟨ret_bool (by simp), (by repeat (first | exact Below.refl _ _ | assumption | (with_reducible exact Env.below (by assumption)) | (with_reducible refine below_new ?_ _) | (with_reducible refine below_drew ?_) | (with_reducible refine below_drewN ?_ _) | (with_reducible refine below_put ?_ ?_ _; rotate_left 1; (dsimp only; omega)) | (refine below_then ?_ (by assumption))))⟩
theorem accumsValues_walk (w : World) (A : Option Addr) (c : Nat) (xs : List Int) (lc : xs.length ≤ c) (lm : c ≤ maxLen) (lw : ∀ x ∈ xs, i64ok x) (lr : Rd ienc 1 w w.heap.size A xs) (cut : Int) (_wc : (Lit.int .i64 cut).wf = true) :
    Calls Try.prog 17 #[.slice A xs.length c, .int .i64 cut] w fun e w' => e = .returned (.bool true) ∧ Below w.heap.size w w' := by
  by_cases h : 1 ≤ xs.length ∧ xs.length ≤ 60 ∧ 0 ≤ cut ∧ cut ≤ xs.length
  · obtain ⟨h1, h2, h3, h4⟩ := h
    obtain ⟨k, rfl⟩ := Int.eq_ofNat_of_zero_le h3
    exact accumsValues_yes w A c xs lc lm lw lr k h1 h2 (by omega)
  · exact accumsValues_no A c xs (by omega) cut w h
end Go.Proofs.Ytkpgigkcnmjbdaa
