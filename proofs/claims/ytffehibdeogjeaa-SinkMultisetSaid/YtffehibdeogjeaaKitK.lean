/- Lemmas and contracts that the later texts use: PopPlain, TimersPop, TimersTPop, TimersUntil, TimersFacts, joined into one text. The conditions of each stand at its head. -/
import Derived.Test.YtffehibdeogjeaaKitC
import Derived.Test.YtffehibdeogjeaaKitA
import Derived.Test.YtffehibdeogjeaaKitI
import Derived.Test.YtffehibdeogjeaaKitJ
import Derived.OwnWalk
/- Plain laws of the loops that pop a heap: where sifting down stops, how it steps, the best of an element and its two children as a loop finds it. No condition. -/
namespace Go.Proofs.Ytffehibdeogjeaa
section
variable {α : Type} {lt : α → α → Bool} {d : α}
theorem dn_stop (m : Nat) (l : List α) {i : Nat} (h : ¬ (2 * i + 1 < l.length ∧ lt (l.getD (chld lt d l i) d) (l.getD i d) = true)) : dn lt d m l i = l := by
  cases m with
  | zero => rfl
  | succ m => unfold dn; rw [if_neg h]
theorem dn_step {m : Nat} {l : List α} {i : Nat} (h0 : 2 * i + 1 < l.length) (hm : l.length ≤ i + m) (h : lt (l.getD (chld lt d l i) d) (l.getD i d) = true) :
    ∃ m', m = m' + 1 ∧ dn lt d m l i = dn lt d m' (sw d l i (chld lt d l i)) (chld lt d l i) ∧ l.length ≤ chld lt d l i + m' := by
  have := chld_lt lt d l i h0
  cases m with
  | zero => omega
  | succ m => exact ⟨m, rfl, by rw [dn, if_pos ⟨h0, h⟩], by omega⟩

/-- The best of i and the first j of its children, as a loop finds it. -/
def bsk (lt : α → α → Bool) (d : α) (l : List α) (i : Nat) : Nat → Nat
  | 0 => i
  | j + 1 => if 2 * i + 1 + j < l.length ∧ lt (l.getD (2 * i + 1 + j) d) (l.getD (bsk lt d l i j) d) = true then 2 * i + 1 + j else bsk lt d l i j
theorem bsk_lt (l : List α) (i : Nat) (hi : i < l.length) : ∀ j, bsk lt d l i j < l.length
  | 0 => hi
  | j + 1 => by unfold bsk; split; omega; exact bsk_lt l i hi j
theorem bsk_out (l : List α) (i : Nat) : ∀ (k j : Nat), l.length ≤ 2 * i + 1 + j → bsk lt d l i (j + k) = bsk lt d l i j
  | 0, _, _ => rfl
  | k + 1, j, h => by
    rw [show j + (k + 1) = (j + k) + 1 from rfl, bsk, if_neg (by omega)]
    exact bsk_out l i k j h
theorem bsk_two (h : STO lt) (l : List α) (i : Nat) : bsk lt d l i 2 = if 2 * i + 1 < l.length ∧ lt (l.getD (chld lt d l i) d) (l.getD i d) = true then chld lt d l i else i := by
  have e1 : bsk lt d l i 1 = if 2 * i + 1 < l.length ∧ lt (l.getD (2 * i + 1) d) (l.getD i d) = true then 2 * i + 1 else i := rfl
  have e2 : bsk lt d l i 2 = if 2 * i + 2 < l.length ∧ lt (l.getD (2 * i + 2) d) (l.getD (bsk lt d l i 1) d) = true then 2 * i + 2 else bsk lt d l i 1 := rfl
  rw [e2, e1]
  unfold chld
  by_cases a1 : 2 * i + 1 < l.length
  · by_cases a2 : 2 * i + 2 < l.length
    · cases x1 : lt (l.getD (2 * i + 1) d) (l.getD i d) with
      | true =>
        cases x2 : lt (l.getD (2 * i + 2) d) (l.getD (2 * i + 1) d) with
        | true => simp [a1, a2, x2, h.tr _ _ _ x2 x1, -List.getD_eq_getElem?_getD]
        | false => simp [a1, a2, x1, x2, -List.getD_eq_getElem?_getD]
      | false =>
        cases x2 : lt (l.getD (2 * i + 2) d) (l.getD i d) with
        | true =>
          have x3 : lt (l.getD (2 * i + 2) d) (l.getD (2 * i + 1) d) = true := by
            cases x3 : lt (l.getD (2 * i + 2) d) (l.getD (2 * i + 1) d) with
            | true => rfl
            | false => rw [h.le x3 x1] at x2; cases x2
          simp [a1, a2, x2, x3, -List.getD_eq_getElem?_getD]
        | false =>
          cases x3 : lt (l.getD (2 * i + 2) d) (l.getD (2 * i + 1) d) with
          | true => simp [a1, a2, x2, -List.getD_eq_getElem?_getD]
          | false => simp [a1, a2, x1, x2, -List.getD_eq_getElem?_getD]
    · simp [a1, a2, -List.getD_eq_getElem?_getD]
  · have a2 : ¬ 2 * i + 2 < l.length := by omega
    simp [a1, a2, -List.getD_eq_getElem?_getD]
/-- A loop's step that sifts down by the best. -/
theorem bsk_step (h : STO lt) {m : Nat} {l : List α} {i : Nat} (hm : l.length ≤ i + m) (hb : bsk lt d l i 2 ≠ i) :
    ∃ m', m = m' + 1 ∧ dn lt d m l i = dn lt d m' (sw d l i (bsk lt d l i 2)) (bsk lt d l i 2) ∧ l.length ≤ bsk lt d l i 2 + m' := by
  rw [bsk_two h] at hb ⊢
  split at hb
  · rename_i hc
    rw [if_pos hc]
    exact dn_step hc.1 hm hc.2
  · exact absurd rfl hb
theorem bsk_stop (h : STO lt) (m : Nat) {l : List α} {i : Nat} (hb : bsk lt d l i 2 = i) : dn lt d m l i = l := by
  refine dn_stop _ _ fun hc => ?_
  rw [bsk_two h, if_pos hc] at hb
  have := chld_lt lt d l i hc.1
  omega

theorem popL_of {l : List α} {x : α} {n : Nat} (hn : l.length = n + 1) (hx : l[n]? = some x) : popL lt d l = dn lt d (n + 1) ((l.set 0 x).take n) 0 := by
  have e : l.getD n d = x := by simp [List.getD_eq_getElem?_getD, hx]
  unfold popL
  rw [hn, show n + 1 - 1 = n from rfl, e]
theorem popL_one {l : List α} (h : l.length = 1) : popL lt d l = [] := List.eq_nil_of_length_eq_zero (by rw [popL_length, h])
theorem untilL_step {p : α → Bool} {n : Nat} {l : List α} {x : α} (hl : l[0]? = some x) (hn : l.length ≤ n) (hp : p x = true) :
    ∃ n', untilL lt d p n l = (x :: (untilL lt d p n' (popL lt d l)).1, (untilL lt d p n' (popL lt d l)).2) ∧ (popL lt d l).length ≤ n' := by
  obtain ⟨h0, -⟩ := List.getElem?_eq_some_iff.1 hl
  have e : l.getD 0 d = x := by simp [List.getD_eq_getElem?_getD, hl]
  cases n with
  | zero => omega
  | succ n => exact ⟨n, by rw [untilL, if_pos ⟨List.length_pos_iff.1 h0, by rw [e]; exact hp⟩, e], by rw [popL_length]; omega⟩
theorem untilL_nil {p : α → Bool} (n : Nat) : untilL lt d p n [] = ([], []) := by
  cases n with
  | zero => rfl
  | succ n => simp [untilL]
theorem untilL_stop {p : α → Bool} (n : Nat) {l : List α} {x : α} (hl : l[0]? = some x) (hp : p x = false) : untilL lt d p n l = ([], l) := by
  have e : l.getD 0 d = x := by simp [List.getD_eq_getElem?_getD, hl]
  cases n with
  | zero => rfl
  | succ n => rw [untilL, if_neg]; rintro ⟨_, h⟩; rw [e, hp] at h; cases h
end
end Go.Proofs.Ytffehibdeogjeaa

/- The contract of timers.pop (chapter 18): the first of a heap, and what is left, in place. Condition: a row that the caller made, not empty, of at most 2^40 timers. -/
namespace Go.Proofs.Ytffehibdeogjeaa
open Go.RowKit

theorem grown_below {w w1 w2 : World} {r : Option Nat} (h1 : w.grownBy w1 r) (h2 : Below w1.heap.size w1 w2) : w.grownBy w2 r :=
  ⟨h2.os.trans h1.os, h2.tape.trans h1.tape, h2.output.trans h1.output, Nat.le_trans h1.size h2.size, fun k hk hne => (h2.block k (Nat.lt_of_lt_of_le hk h1.size)).trans (h1.block k hk hne)⟩
theorem grown_alloc {w w1 : World} {r : Option Nat} (h1 : w.grownBy w1 r) (o : Obj) : w.grownBy (w1.alloc o) r := grown_below h1 ((Below.refl _ _).alloc (Nat.le_refl _) o)
theorem grown_drew {w w1 : World} {r : Option Nat} (h1 : w.grownBy w1 r) : w.grownBy w1.drew r := ⟨h1.os, h1.tape, h1.output, h1.size, h1.block⟩
theorem grown_put {w w1 : World} {r : Option Nat} (h1 : w.grownBy w1 r) {p : Addr} (hp : w.heap.size ≤ p.block) (v : Value) : w.grownBy (w1.setCell p v) r :=
  ⟨h1.os, h1.tape, h1.output, by simpa [World.setCell] using h1.size, fun k hk hne => by
    have e : (w1.setCell p v).heap[k]? = w1.heap[k]? := Below.heap_setCell _ _ _ _ (by omega)
    rw [e]; exact h1.block k hk hne⟩
theorem Loc.putW {g o : Nat} {L : List (Nat × List Value)} (hne : ∀ q ∈ L, q.1 ≠ g) : ∀ (us : List Value) (j : Nat) (W : World), Loc W L → Loc (putW W g o j us) L
  | [], _, _, h => h
  | u :: us, j, _, h => Loc.putW hne us (j + 1) _ (Loc.far (p := ⟨g, o + j, none⟩) u hne h)
theorem own_cap {α : Type} {enc : α → List Value} {sz : Nat} {w : World} {base : Nat} {e : TypeId} {g n cap : Nat} {l : List α} (h : Own enc sz w base e (.slice (some ⟨g, 0, none⟩) n cap) l) (hn : n = l.length) : n ≤ cap := by
  subst hn
  rcases h.2 with ⟨h', h0⟩ | ⟨g', cap', cur, h', hb, hg, hnc, hcm, hcs, htake⟩
  · cases h'
  · simp only [Value.slice.injEq, Option.some.injEq, Addr.mk.injEq, and_true] at h'
    obtain ⟨_, _, rfl⟩ := h'
    exact hnc

theorem pop_end {w W : World} {g b n cap base f i : Nat} {l' r : List Tm} {x y z : Value} (hown : Own tenc 3 W base 34 (.slice (some ⟨g, 0, none⟩) n cap) l') (hg : w.grownBy W (some g)) (hbg : b ≠ g) (hb : w.heap.size ≤ b) (hl : l'.length = n)
    (hd : dn tlt t0 f l' i = r) (hz : dn tlt t0 f l' i = l') :
    Own tenc 3 (((W.setCell ⟨b, 0, none⟩ x).setCell ⟨b, 1, none⟩ y).setCell ⟨b, 2, none⟩ z) base 34 (.slice (some ⟨g, 0, none⟩) n cap) r ∧ w.grownBy (((W.setCell ⟨b, 0, none⟩ x).setCell ⟨b, 1, none⟩ y).setCell ⟨b, 2, none⟩ z) (some g) := by
  subst hl
  rw [← hd, hz]
  refine ⟨hown.grown (putW_grown b 0 [x, y, z] 0 W) (.inr ?_), grown_put (grown_put (grown_put hg hb x) hb y) hb z⟩
  simp [Value.ownBlock]
  omega

set_option maxHeartbeats 8000000 in
set_option maxRecDepth 100000 in
theorem pop_any (g cap m n base : Nat) (l : List Tm) (x0 : Tm) (w : World) (hl : l.length = m) (hmn : m = n + 1) (hn : m ≤ 1099511627776) (hx0 : l[0]? = some x0)
    (hown : Own tenc 3 w base 34 (.slice (some ⟨g, 0, none⟩) m cap) l) :
    Calls Try.prog 73 #[.slice (some ⟨g, 0, none⟩) m cap] w fun e w' =>
      e = .returned (.tuple #[.agg #[.int .i64 x0.s, .int .i64 x0.e, .int .i64 x0.k], .slice (some ⟨g, 0, none⟩) n cap]) ∧ Own tenc 3 w' base 34 (.slice (some ⟨g, 0, none⟩) n cap) (popL tlt t0 l) ∧ w.grownBy w' (some g) := by
  have hcap := own_cap hown hl.symm
  obtain ⟨xn, hxn⟩ : ∃ x, l[n]? = some x := ⟨_, List.getElem?_eq_getElem (by omega)⟩
  have hpl : popL tlt t0 l = dn tlt t0 (n + 1) ((l.set 0 xn).take n) 0 := popL_of (by omega) hxn
  obtain ⟨c1, c2, c3, hglt⟩ := own_tm hown hx0
  obtain ⟨d1, d2, d3, -⟩ := own_tm hown hxn
  rw [Nat.zero_mul] at c1
  rw [Nat.zero_mul, Nat.zero_add] at c2 c3
  have frz := own_frz hown hl.symm
  have hset := Own.set tenc_len hown hl.symm 0 (by omega) xn
  have hset1 := (Own.take tenc_len hset.1 n (by simp; omega)).alloc (.cells #[.int .i64 0, .int .i64 0, .int .i64 0] 34) |>.alloc (.cells #[.int .i64 x0.s, .int .i64 x0.e, .int .i64 x0.k] 34)
  have hsz : (putW w g (0 * 3) 0 (tenc xn)).heap.size = w.heap.size := by simp [putW, tenc, World.setCell]
  have hloc := ((Loc.nil (putW w g (0 * 3) 0 (tenc xn))).new [.int .i64 0, .int .i64 0, .int .i64 0] 34).new [.int .i64 x0.s, .int .i64 x0.e, .int .i64 x0.k] 34
  rw [World.size_alloc, hsz] at hloc
  have hgr := grown_alloc (grown_alloc hset.2 (.cells #[.int .i64 0, .int .i64 0, .int .i64 0] 34)) (.cells #[.int .i64 x0.s, .int .i64 x0.e, .int .i64 x0.k] 34)
  have e1 : IntKind.i64.wrap ((m : Int) - 1) = (n : Int) := by rw [IntWalk.i64_in _ (by omega)]; omega
  have i1 : (0 : Int) ≤ (n : Int) := by omega
  have i2 : (n : Int) < (m : Int) := by omega
  have i3 : (0 : Int) < (m : Int) := by omega
  have i4 : (n : Int) ≤ (cap : Int) := by omega
  have i5 : n ≤ cap := by omega
  have HL := Lib.hid hl; have HMN := Lib.hid hmn; have HPL := Lib.hid hpl; have HS1 := Lib.hid hset1; have HLOC := Lib.hid hloc; have HGR := Lib.hid hgr
  clear hl hmn hpl hset hset1 hloc hgr hx0 hxn hown hsz
  go_enter Try.func73, Try.ntmps73
  go_wp2
  go_loopw [6] (fun i wr => ∃ (f i' : Nat) (l' : List Tm), i = .int .i64 i' ∧ l'.length = n ∧ n ≤ i' + f ∧ i' ≤ n ∧ dn tlt t0 f l' i' = popL tlt t0 l ∧ Own tenc 3 wr base 34 (.slice (some ⟨g, 0, none⟩) n cap) l' ∧
    Loc wr [(w.heap.size + 1, [.int .i64 x0.s, .int .i64 x0.e, .int .i64 x0.k]), (w.heap.size, [.int .i64 0, .int .i64 0, .int .i64 0])] ∧ w.grownBy wr (some g)) (fun i _ => n - (intOf i).toNat)
  case atStart => exact ⟨n + 1, 0, _, by go_num, by simp [HL.out, HMN.out], by omega, by omega, HPL.out.symm, HS1.out, HLOC.out, HGR.out⟩
  case round =>
    obtain ⟨f, i', l', rfl, hll, hif, hin, hdn, hown, hloc, hg⟩ := hrel
    have HLL := Lib.hid hll
    have HDN := Lib.hid hdn
    have HG := Lib.hid hg
    have HLC := Lib.hid hloc
    by_cases hc : 2 * i' + 1 < n
    · obtain ⟨c, hce⟩ : ∃ c, c = chld tlt t0 l' i' := ⟨_, rfl⟩
      obtain ⟨q1, q2, q3⟩ := chld_lt tlt t0 l' i' (by rw [hll]; exact hc)
      have hcd := hce
      unfold chld at hcd
      rw [hll] at hcd
      rw [← hce, hll] at q1
      rw [← hce] at q2 q3
      obtain ⟨x, hx⟩ : ∃ x, l'[c]? = some x := ⟨_, List.getElem?_eq_getElem (by omega)⟩
      obtain ⟨y, hy⟩ : ∃ y, l'[i']? = some y := ⟨_, List.getElem?_eq_getElem (by omega)⟩
      have HX := Lib.hid hx
      have HY := Lib.hid hy
      have HCE := Lib.hid hce
      obtain ⟨p1, p2, p3, hgr⟩ := own_tm hown hx
      obtain ⟨s1, s2, s3, -⟩ := own_tm hown hy
      have GX := Lib.hid (getD_some (d := t0) hx)
      have GY := Lib.hid (getD_some (d := t0) hy)
      have hE : Env wr [] wr := ⟨Below.refl _ _, trivial⟩
      have hR : ∀ X, Env wr [] X → X.cell? ⟨g, c * 3, none⟩ = some (.int .i64 x.s) ∧ X.cell? ⟨g, c * 3 + 1, none⟩ = some (.int .i64 x.e) ∧ X.cell? ⟨g, c * 3 + 2, none⟩ = some (.int .i64 x.k) ∧
          X.cell? ⟨g, i' * 3, none⟩ = some (.int .i64 y.s) ∧ X.cell? ⟨g, i' * 3 + 1, none⟩ = some (.int .i64 y.e) ∧ X.cell? ⟨g, i' * 3 + 2, none⟩ = some (.int .i64 y.k) := fun X hX =>
        ⟨(hX.1.cell (p := ⟨g, c * 3, none⟩) hgr).trans p1, (hX.1.cell (p := ⟨g, c * 3 + 1, none⟩) hgr).trans p2, (hX.1.cell (p := ⟨g, c * 3 + 2, none⟩) hgr).trans p3,
          (hX.1.cell (p := ⟨g, i' * 3, none⟩) hgr).trans s1, (hX.1.cell (p := ⟨g, i' * 3 + 1, none⟩) hgr).trans s2, (hX.1.cell (p := ⟨g, i' * 3 + 2, none⟩) hgr).trans s3⟩
      have b1 : IntKind.i64.wrap (2 * (i' : Int)) = 2 * (i' : Int) := IntWalk.i64_in _ (by omega)
      have b2 : IntKind.i64.wrap (2 * (i' : Int) + 1) = 2 * (i' : Int) + 1 := IntWalk.i64_in _ (by omega)
      have b3 : decide (2 * (i' : Int) + 1 < (n : Int)) = true := by simp; omega
      have j1 : (0 : Int) ≤ (c : Int) := by omega
      have j2 : (c : Int) < (n : Int) := by omega
      have j3 : (0 : Int) ≤ (i' : Int) := by omega
      have j4 : (i' : Int) < (n : Int) := by omega
      have hgb := hgr
      clear p1 p2 p3 s1 s2 s3 hx hy hdn hg hloc hce
      by_cases h2 : 2 * i' + 2 < n
      · obtain ⟨z2, hz2⟩ : ∃ x, l'[2 * i' + 2]? = some x := ⟨_, List.getElem?_eq_getElem (by omega)⟩
        obtain ⟨z1, hz1⟩ : ∃ x, l'[2 * i' + 1]? = some x := ⟨_, List.getElem?_eq_getElem (by omega)⟩
        rw [getD_some hz2, getD_some hz1] at hcd
        by_cases h3 : tlt z2 z1 = true
        · rw [if_pos ⟨h2, h3⟩] at hcd
          obtain ⟨k, hk⟩ : ∃ k, k = 2 * i' + 1 := ⟨_, rfl⟩
          obtain rfl : x = z2 := by
            have := HX.out
            rw [hcd, hz2] at this
            exact (Option.some.inj this).symm
          rw [← hk] at hz1
          obtain ⟨r1, r2, r3, -⟩ := own_tm hown hz1
          have hR2 : ∀ X, Env wr [] X → X.cell? ⟨g, k * 3, none⟩ = some (.int .i64 z1.s) ∧ X.cell? ⟨g, k * 3 + 1, none⟩ = some (.int .i64 z1.e) ∧ X.cell? ⟨g, k * 3 + 2, none⟩ = some (.int .i64 z1.k) := fun X hX =>
            ⟨(hX.1.cell (p := ⟨g, k * 3, none⟩) hgr).trans r1, (hX.1.cell (p := ⟨g, k * 3 + 1, none⟩) hgr).trans r2, (hX.1.cell (p := ⟨g, k * 3 + 2, none⟩) hgr).trans r3⟩
          have b4 : 2 * (i' : Int) + 1 = (k : Int) := by omega
          have b5 : IntKind.i64.wrap ((k : Int) + 1) = (c : Int) := by rw [IntWalk.i64_in _ (by omega)]; omega
          have b6 : decide ((c : Int) < (n : Int)) = true := by simp; omega
          have j5 : (0 : Int) ≤ (k : Int) := by omega
          have j6 : (k : Int) < (n : Int) := by omega
          rw [b4] at b2 b3
          clear r1 r2 r3 hz1 hz2 hcd hk hll h2
          go_wp2_with fail
          refine wp_region_held_drew (S := Env wr []) (by kernel_rfl) (by (first | assumption | exact Env.step (by assumption) (by assumption) | exact Env.old (by assumption) _ | exact Env.drew hE | exact hE | exact Env.drew (by assumption) | exact Env.drew (Env.old (by assumption) _) | ((repeat first | refine Env.far0 ?_ (by assumption) _ | refine Env.far1 ?_ (by assumption) _ | refine Env.farA ?_ (by assumption) _); assumption))) (fun hHeld => ?_)
          refine hTake 0 (by kernel_rfl) (by kernel_rfl) (by kernel_rfl) (by decide) (by assumption) ?_; (intro oi hoi; simp only [List.getElem?_toArray, List.getElem?_cons_zero] at hoi; obtain rfl := Option.some.inj hoi; clear hoi); refine ⟨rfl, ?_⟩; apply Exists.intro; refine ⟨?_, fun _ _ _ h => h, ?_⟩; (intro w hSw; (try dsimp only at hSw); go_simp; (try with_reducible rfl)); (try simp only [Act.put, List.setIfInBounds_toArray, List.set_cons_zero, List.set_cons_succ]); refine hTake 1 (by kernel_rfl) (by kernel_rfl) (by kernel_rfl) (by decide) (by assumption) ?_; (intro oi hoi; simp only [List.getElem?_toArray, List.getElem?_cons_succ, List.getElem?_cons_zero] at hoi; obtain rfl := Option.some.inj hoi; clear hoi); refine ⟨rfl, ?_⟩; apply Exists.intro; refine ⟨?_, fun _ _ _ h => h, ?_⟩; (intro w hSw; (try dsimp only at hSw); go_simp; (try with_reducible rfl)); (try simp only [Act.put, List.setIfInBounds_toArray, List.set_cons_zero, List.set_cons_succ]); refine hTake 2 (by kernel_rfl) (by kernel_rfl) (by kernel_rfl) (by decide) (by assumption) ?_; (intro oi hoi; simp only [List.getElem?_toArray, List.getElem?_cons_succ, List.getElem?_cons_zero] at hoi; obtain rfl := Option.some.inj hoi; clear hoi); refine ⟨rfl, ?_⟩; apply Exists.intro; refine ⟨?_, fun _ _ _ h => h, ?_⟩; (intro w hSw; (try dsimp only at hSw); go_simp; (try with_reducible rfl)); (try simp only [Act.put, List.setIfInBounds_toArray, List.set_cons_zero, List.set_cons_succ]); refine hTake 3 (by kernel_rfl) (by kernel_rfl) (by kernel_rfl) (by decide) (by assumption) ?_; (intro oi hoi; simp only [List.getElem?_toArray, List.getElem?_cons_succ, List.getElem?_cons_zero] at hoi; obtain rfl := Option.some.inj hoi; clear hoi); refine ⟨rfl, ?_⟩; apply Exists.intro; refine ⟨?_, fun _ _ _ h => h, ?_⟩; (intro w hSw; (try dsimp only at hSw); go_simp; (try with_reducible rfl)); (try simp only [Act.put, List.setIfInBounds_toArray, List.set_cons_zero, List.set_cons_succ]); refine hTake 4 (by kernel_rfl) (by kernel_rfl) (by kernel_rfl) (by decide) (by assumption) ?_; (intro oi hoi; simp only [List.getElem?_toArray, List.getElem?_cons_succ, List.getElem?_cons_zero] at hoi; obtain rfl := Option.some.inj hoi; clear hoi); refine ⟨rfl, ?_⟩; apply Exists.intro; refine ⟨?_, fun _ _ _ h => h, ?_⟩; (intro w hSw; (try dsimp only at hSw); go_simp; (try with_reducible rfl)); (try simp only [Act.put, List.setIfInBounds_toArray, List.set_cons_zero, List.set_cons_succ]); refine hTake 5 (by kernel_rfl) (by kernel_rfl) (by kernel_rfl) (by decide) (by assumption) ?_; (intro oi hoi; simp only [List.getElem?_toArray, List.getElem?_cons_succ, List.getElem?_cons_zero] at hoi; obtain rfl := Option.some.inj hoi; clear hoi); refine ⟨rfl, ?_⟩; apply Exists.intro; refine ⟨?_, fun _ _ _ h => h, ?_⟩; (intro w hSw; (try dsimp only at hSw); go_simp; (try with_reducible rfl)); (try simp only [Act.put, List.setIfInBounds_toArray, List.set_cons_zero, List.set_cons_succ]); refine hTake 6 (by kernel_rfl) (by kernel_rfl) (by kernel_rfl) (by decide) (by assumption) ?_; (intro oi hoi; simp only [List.getElem?_toArray, List.getElem?_cons_succ, List.getElem?_cons_zero] at hoi; obtain rfl := Option.some.inj hoi; clear hoi); refine ⟨rfl, ?_⟩; apply Exists.intro; refine ⟨?_, fun _ _ _ h => h, ?_⟩; (intro w hSw; (try dsimp only at hSw); go_simp; (try with_reducible rfl)); (try simp only [Act.put, List.setIfInBounds_toArray, List.set_cons_zero, List.set_cons_succ]); refine hTake 7 (by kernel_rfl) (by kernel_rfl) (by kernel_rfl) (by decide) (by assumption) ?_; (intro oi hoi; simp only [List.getElem?_toArray, List.getElem?_cons_succ, List.getElem?_cons_zero] at hoi; obtain rfl := Option.some.inj hoi; clear hoi); refine ⟨rfl, ?_⟩; apply Exists.intro; refine ⟨?_, fun _ _ _ h => h, ?_⟩; (intro w hSw; (try dsimp only at hSw); go_simp; (try with_reducible rfl)); (try simp only [Act.put, List.setIfInBounds_toArray, List.set_cons_zero, List.set_cons_succ]); refine hTake 8 (by kernel_rfl) (by kernel_rfl) (by kernel_rfl) (by decide) (by assumption) ?_; (intro oi hoi; simp only [List.getElem?_toArray, List.getElem?_cons_succ, List.getElem?_cons_zero] at hoi; obtain rfl := Option.some.inj hoi; clear hoi); refine ⟨rfl, ?_⟩; apply Exists.intro; refine ⟨?_, fun _ _ _ h => h, ?_⟩; (intro w hSw; (try dsimp only at hSw); go_simp; (try with_reducible rfl)); (try simp only [Act.put, List.setIfInBounds_toArray, List.set_cons_zero, List.set_cons_succ]); refine hTake 9 (by kernel_rfl) (by kernel_rfl) (by kernel_rfl) (by decide) (by assumption) ?_; (intro oi hoi; simp only [List.getElem?_toArray, List.getElem?_cons_succ, List.getElem?_cons_zero] at hoi; obtain rfl := Option.some.inj hoi; clear hoi); refine ⟨rfl, ?_⟩; apply Exists.intro; refine ⟨?_, fun _ _ _ h => h, ?_⟩; (intro w hSw; (try dsimp only at hSw); go_simp; (try with_reducible rfl)); (try simp only [Act.put, List.setIfInBounds_toArray, List.set_cons_zero, List.set_cons_succ]); refine hTake 10 (by kernel_rfl) (by kernel_rfl) (by kernel_rfl) (by decide) (by assumption) ?_; (intro oi hoi; simp only [List.getElem?_toArray, List.getElem?_cons_succ, List.getElem?_cons_zero] at hoi; obtain rfl := Option.some.inj hoi; clear hoi); refine ⟨rfl, ?_⟩; apply Exists.intro; refine ⟨?_, fun _ _ _ h => h, ?_⟩; (intro w hSw; (try dsimp only at hSw); go_simp; (try with_reducible rfl)); (try simp only [Act.put, List.setIfInBounds_toArray, List.set_cons_zero, List.set_cons_succ]); refine hTake 11 (by kernel_rfl) (by kernel_rfl) (by kernel_rfl) (by decide) (by assumption) ?_; (intro oi hoi; simp only [List.getElem?_toArray, List.getElem?_cons_succ, List.getElem?_cons_zero] at hoi; obtain rfl := Option.some.inj hoi; clear hoi); refine ⟨rfl, ?_⟩; apply Exists.intro; refine ⟨?_, fun _ _ _ h => h, ?_⟩; (intro w hSw; (try dsimp only at hSw); go_simp; (try with_reducible rfl)); (try simp only [Act.put, List.setIfInBounds_toArray, List.set_cons_zero, List.set_cons_succ]); refine hTake 12 (by kernel_rfl) (by kernel_rfl) (by kernel_rfl) (by decide) (by assumption) ?_; (intro oi hoi; simp only [List.getElem?_toArray, List.getElem?_cons_succ, List.getElem?_cons_zero] at hoi; obtain rfl := Option.some.inj hoi; clear hoi); refine ⟨rfl, ?_⟩; apply Exists.intro; refine ⟨?_, fun _ _ _ h => h, ?_⟩; (intro w hSw; (try dsimp only at hSw); go_simp; (try with_reducible rfl)); (try simp only [Act.put, List.setIfInBounds_toArray, List.set_cons_zero, List.set_cons_succ]); refine hTake 13 (by kernel_rfl) (by kernel_rfl) (by kernel_rfl) (by decide) (by assumption) ?_; (intro oi hoi; simp only [List.getElem?_toArray, List.getElem?_cons_succ, List.getElem?_cons_zero] at hoi; obtain rfl := Option.some.inj hoi; clear hoi); refine ⟨rfl, ?_⟩; apply Exists.intro; refine ⟨?_, fun _ _ _ h => h, ?_⟩; (intro w hSw; (try dsimp only at hSw); go_simp; (try with_reducible rfl)); (try simp only [Act.put, List.setIfInBounds_toArray, List.set_cons_zero, List.set_cons_succ])
          refine hOnly 14 (by kernel_rfl) (by decide) ?_; (intro oi hoi; simp only [List.getElem?_toArray, List.getElem?_cons_succ, List.getElem?_cons_zero] at hoi; obtain rfl := Option.some.inj hoi; clear hoi); intro K hK; go_simp
          go_at_call 75
          refine (before_any x z1 _).mono ?_
          rw [h3]
          rintro e w6 ⟨rfl, hb6⟩
          have hEhb6 := Env.step hb6 (by assumption); (try (have hqhb6 := (by with_reducible first | exact Loc.below hb6 (Loc.new (Loc.nil _) _ _) | exact Loc.below hb6 (Loc.drew (Loc.new (Loc.nil _) _ _)) | exact Loc.below hb6 (by assumption : Loc _ [_])); (repeat rw [World.size_drew] at hqhb6); (repeat rw [World.size_alloc] at hqhb6); have hrhb6 := hqhb6; (repeat unfold Loc at hrhb6)))
          (refine hK.out _ _ (by (first | assumption | exact Env.step (by assumption) (by assumption) | exact Env.old (by assumption) _ | exact Env.drew hE | exact hE | exact Env.drew (by assumption) | exact Env.drew (Env.old (by assumption) _) | ((repeat first | refine Env.far0 ?_ (by assumption) _ | refine Env.far1 ?_ (by assumption) _ | refine Env.farA ?_ (by assumption) _); assumption))) (fun hHeld => ?_); clear hK K; (try simp only [Act.put, List.setIfInBounds_toArray, List.set_cons_zero, List.set_cons_succ]))
          refine hTake 15 (by kernel_rfl) (by kernel_rfl) (by kernel_rfl) (by decide) (by assumption) ?_; (intro oi hoi; simp only [List.getElem?_toArray, List.getElem?_cons_succ, List.getElem?_cons_zero] at hoi; obtain rfl := Option.some.inj hoi; clear hoi); refine ⟨rfl, ?_⟩; apply Exists.intro; refine ⟨?_, fun _ _ _ h => h, ?_⟩; (intro w hSw; (try dsimp only at hSw); go_simp; (try with_reducible rfl)); (try simp only [Act.put, List.setIfInBounds_toArray, List.set_cons_zero, List.set_cons_succ])
          refine wpAnyH_done (by kernel_rfl) ?_ _
          clear hR2 j5 j6
          go_wp2_with fail
          by_cases hlt : tlt x y = true
          · obtain ⟨f2, -, e1, e2⟩ := dn_step (lt := tlt) (d := t0) (m := f) (l := l') (i := i') (by rw [HLL.out]; exact hc) (by rw [HLL.out]; exact hif) (by rw [← HCE.out, GX.out, GY.out]; exact hlt)
            rw [← HCE.out] at e1 e2
            rw [HLL.out] at e2
            have E1 := Lib.hid e1
            clear e1
            refine wp_region_held_drew (S := Env wr []) (by kernel_rfl) (by (first | assumption | exact Env.step (by assumption) (by assumption) | exact Env.old (by assumption) _ | exact Env.drew hE | exact hE | exact Env.drew (by assumption) | exact Env.drew (Env.old (by assumption) _) | ((repeat first | refine Env.far0 ?_ (by assumption) _ | refine Env.far1 ?_ (by assumption) _ | refine Env.farA ?_ (by assumption) _); assumption))) (fun hHeld => ?_)
            refine hTake 0 (by kernel_rfl) (by kernel_rfl) (by kernel_rfl) (by decide) (by assumption) ?_; (intro oi hoi; simp only [List.getElem?_toArray, List.getElem?_cons_zero] at hoi; obtain rfl := Option.some.inj hoi; clear hoi); refine ⟨rfl, ?_⟩; apply Exists.intro; refine ⟨?_, fun _ _ _ h => h, ?_⟩; (intro w hSw; (try dsimp only at hSw); go_simp; (try with_reducible rfl)); (try simp only [Act.put, List.setIfInBounds_toArray, List.set_cons_zero, List.set_cons_succ]); refine hTake 1 (by kernel_rfl) (by kernel_rfl) (by kernel_rfl) (by decide) (by assumption) ?_; (intro oi hoi; simp only [List.getElem?_toArray, List.getElem?_cons_succ, List.getElem?_cons_zero] at hoi; obtain rfl := Option.some.inj hoi; clear hoi); refine ⟨rfl, ?_⟩; apply Exists.intro; refine ⟨?_, fun _ _ _ h => h, ?_⟩; (intro w hSw; (try dsimp only at hSw); go_simp; (try with_reducible rfl)); (try simp only [Act.put, List.setIfInBounds_toArray, List.set_cons_zero, List.set_cons_succ]); refine hTake 2 (by kernel_rfl) (by kernel_rfl) (by kernel_rfl) (by decide) (by assumption) ?_; (intro oi hoi; simp only [List.getElem?_toArray, List.getElem?_cons_succ, List.getElem?_cons_zero] at hoi; obtain rfl := Option.some.inj hoi; clear hoi); refine ⟨rfl, ?_⟩; apply Exists.intro; refine ⟨?_, fun _ _ _ h => h, ?_⟩; (intro w hSw; (try dsimp only at hSw); go_simp; (try with_reducible rfl)); (try simp only [Act.put, List.setIfInBounds_toArray, List.set_cons_zero, List.set_cons_succ]); refine hTake 3 (by kernel_rfl) (by kernel_rfl) (by kernel_rfl) (by decide) (by assumption) ?_; (intro oi hoi; simp only [List.getElem?_toArray, List.getElem?_cons_succ, List.getElem?_cons_zero] at hoi; obtain rfl := Option.some.inj hoi; clear hoi); refine ⟨rfl, ?_⟩; apply Exists.intro; refine ⟨?_, fun _ _ _ h => h, ?_⟩; (intro w hSw; (try dsimp only at hSw); go_simp; (try with_reducible rfl)); (try simp only [Act.put, List.setIfInBounds_toArray, List.set_cons_zero, List.set_cons_succ]); refine hTake 4 (by kernel_rfl) (by kernel_rfl) (by kernel_rfl) (by decide) (by assumption) ?_; (intro oi hoi; simp only [List.getElem?_toArray, List.getElem?_cons_succ, List.getElem?_cons_zero] at hoi; obtain rfl := Option.some.inj hoi; clear hoi); refine ⟨rfl, ?_⟩; apply Exists.intro; refine ⟨?_, fun _ _ _ h => h, ?_⟩; (intro w hSw; (try dsimp only at hSw); go_simp; (try with_reducible rfl)); (try simp only [Act.put, List.setIfInBounds_toArray, List.set_cons_zero, List.set_cons_succ]); refine hTake 5 (by kernel_rfl) (by kernel_rfl) (by kernel_rfl) (by decide) (by assumption) ?_; (intro oi hoi; simp only [List.getElem?_toArray, List.getElem?_cons_succ, List.getElem?_cons_zero] at hoi; obtain rfl := Option.some.inj hoi; clear hoi); refine ⟨rfl, ?_⟩; apply Exists.intro; refine ⟨?_, fun _ _ _ h => h, ?_⟩; (intro w hSw; (try dsimp only at hSw); go_simp; (try with_reducible rfl)); (try simp only [Act.put, List.setIfInBounds_toArray, List.set_cons_zero, List.set_cons_succ]); refine hTake 6 (by kernel_rfl) (by kernel_rfl) (by kernel_rfl) (by decide) (by assumption) ?_; (intro oi hoi; simp only [List.getElem?_toArray, List.getElem?_cons_succ, List.getElem?_cons_zero] at hoi; obtain rfl := Option.some.inj hoi; clear hoi); refine ⟨rfl, ?_⟩; apply Exists.intro; refine ⟨?_, fun _ _ _ h => h, ?_⟩; (intro w hSw; (try dsimp only at hSw); go_simp; (try with_reducible rfl)); (try simp only [Act.put, List.setIfInBounds_toArray, List.set_cons_zero, List.set_cons_succ]); refine hTake 7 (by kernel_rfl) (by kernel_rfl) (by kernel_rfl) (by decide) (by assumption) ?_; (intro oi hoi; simp only [List.getElem?_toArray, List.getElem?_cons_succ, List.getElem?_cons_zero] at hoi; obtain rfl := Option.some.inj hoi; clear hoi); refine ⟨rfl, ?_⟩; apply Exists.intro; refine ⟨?_, fun _ _ _ h => h, ?_⟩; (intro w hSw; (try dsimp only at hSw); go_simp; (try with_reducible rfl)); (try simp only [Act.put, List.setIfInBounds_toArray, List.set_cons_zero, List.set_cons_succ])
            refine hOnly 8 (by kernel_rfl) (by decide) ?_; (intro oi hoi; simp only [List.getElem?_toArray, List.getElem?_cons_succ, List.getElem?_cons_zero] at hoi; obtain rfl := Option.some.inj hoi; clear hoi); intro K hK; go_simp
            go_at_call 75
            refine (before_any x y _).mono ?_
            rw [hlt]
            rintro e w7 ⟨rfl, hb7⟩
            have hEhb7 := Env.step hb7 (by assumption); (try (have hqhb7 := (by with_reducible first | exact Loc.below hb7 (Loc.new (Loc.nil _) _ _) | exact Loc.below hb7 (Loc.drew (Loc.new (Loc.nil _) _ _)) | exact Loc.below hb7 (by assumption : Loc _ [_])); (repeat rw [World.size_drew] at hqhb7); (repeat rw [World.size_alloc] at hqhb7); have hrhb7 := hqhb7; (repeat unfold Loc at hrhb7)))
            (refine hK.out _ _ (by (first | assumption | exact Env.step (by assumption) (by assumption) | exact Env.old (by assumption) _ | exact Env.drew hE | exact hE | exact Env.drew (by assumption) | exact Env.drew (Env.old (by assumption) _) | ((repeat first | refine Env.far0 ?_ (by assumption) _ | refine Env.far1 ?_ (by assumption) _ | refine Env.farA ?_ (by assumption) _); assumption))) (fun hHeld => ?_); clear hK K; (try simp only [Act.put, List.setIfInBounds_toArray, List.set_cons_zero, List.set_cons_succ]))
            refine hTake 9 (by kernel_rfl) (by kernel_rfl) (by kernel_rfl) (by decide) (by assumption) ?_; (intro oi hoi; simp only [List.getElem?_toArray, List.getElem?_cons_succ, List.getElem?_cons_zero] at hoi; obtain rfl := Option.some.inj hoi; clear hoi); refine ⟨rfl, ?_⟩; apply Exists.intro; refine ⟨?_, fun _ _ _ h => h, ?_⟩; (intro w hSw; (try dsimp only at hSw); go_simp; (try with_reducible rfl)); (try simp only [Act.put, List.setIfInBounds_toArray, List.set_cons_zero, List.set_cons_succ])
            refine wpAnyH_done (by kernel_rfl) ?_ _
            have hown6 := hown.below hHeld.1
            have hg6 := grown_below HG.out hHeld.1
            have hl6 := HLC.out.below hHeld.1
            have HG6 := Lib.hid hg6
            have HL6 := Lib.hid hl6
            obtain ⟨p1, p2, p3, hg7⟩ := own_tm hown6 HX.out
            obtain ⟨s1, s2, s3, -⟩ := own_tm hown6 HY.out
            have frz6 := own_frz hown6 HLL.out.symm
            have hsw : sw t0 l' i' c = (l'.set i' x).set c y := by unfold sw; rw [GX.out, GY.out]
            have HSW := Lib.hid hsw
            have hne : i' ≠ c := by omega
            clear hsw hR hE hHeld hg6 hl6
            go_wp2
            go_region
            all_goals
              go_wp2
              go_roundw
              case rel =>
                have h1 := Own.set tenc_len hown6 HLL.out.symm i' (by rw [HLL.out]; omega) x
                have h2 := Own.set tenc_len h1.1 (by simp [HLL.out]) c (by simp; rw [HLL.out]; omega) y
                have hneq : ∀ q ∈ [(w.heap.size + 1, [Value.int .i64 x0.s, .int .i64 x0.e, .int .i64 x0.k]), (w.heap.size, [Value.int .i64 0, .int .i64 0, .int .i64 0])], q.1 ≠ g := by
                  intro q hq; simp at hq; rcases hq with rfl | rfl <;> (simp; omega)
                exact ⟨f2, c, sw t0 l' i' c, by go_num, by rw [sw_length, HLL.out], e2, by omega, by rw [← E1.out, HDN.out], by rw [HSW.out]; exact own_drew h2.1, (Loc.putW hneq (tenc y) 0 _ (Loc.putW hneq (tenc x) 0 _ HL6.out)).drew, grown_drew (grown_trans (grown_trans HG6.out h1.2) h2.2)⟩
              case measure => simp [intOf]; omega
          · have hlt' : tlt x y = false := by simpa using hlt
            have hz : dn tlt t0 f l' i' = l' := dn_stop _ _ (by rw [← HCE.out, GX.out, GY.out]; intro h; exact hlt h.2)
            have HZ := Lib.hid hz
            clear hz hlt
            refine wp_region_held_drew (S := Env wr []) (by kernel_rfl) (by (first | assumption | exact Env.step (by assumption) (by assumption) | exact Env.old (by assumption) _ | exact Env.drew hE | exact hE | exact Env.drew (by assumption) | exact Env.drew (Env.old (by assumption) _) | ((repeat first | refine Env.far0 ?_ (by assumption) _ | refine Env.far1 ?_ (by assumption) _ | refine Env.farA ?_ (by assumption) _); assumption))) (fun hHeld => ?_)
            refine hTake 0 (by kernel_rfl) (by kernel_rfl) (by kernel_rfl) (by decide) (by assumption) ?_; (intro oi hoi; simp only [List.getElem?_toArray, List.getElem?_cons_zero] at hoi; obtain rfl := Option.some.inj hoi; clear hoi); refine ⟨rfl, ?_⟩; apply Exists.intro; refine ⟨?_, fun _ _ _ h => h, ?_⟩; (intro w hSw; (try dsimp only at hSw); go_simp; (try with_reducible rfl)); (try simp only [Act.put, List.setIfInBounds_toArray, List.set_cons_zero, List.set_cons_succ]); refine hTake 1 (by kernel_rfl) (by kernel_rfl) (by kernel_rfl) (by decide) (by assumption) ?_; (intro oi hoi; simp only [List.getElem?_toArray, List.getElem?_cons_succ, List.getElem?_cons_zero] at hoi; obtain rfl := Option.some.inj hoi; clear hoi); refine ⟨rfl, ?_⟩; apply Exists.intro; refine ⟨?_, fun _ _ _ h => h, ?_⟩; (intro w hSw; (try dsimp only at hSw); go_simp; (try with_reducible rfl)); (try simp only [Act.put, List.setIfInBounds_toArray, List.set_cons_zero, List.set_cons_succ]); refine hTake 2 (by kernel_rfl) (by kernel_rfl) (by kernel_rfl) (by decide) (by assumption) ?_; (intro oi hoi; simp only [List.getElem?_toArray, List.getElem?_cons_succ, List.getElem?_cons_zero] at hoi; obtain rfl := Option.some.inj hoi; clear hoi); refine ⟨rfl, ?_⟩; apply Exists.intro; refine ⟨?_, fun _ _ _ h => h, ?_⟩; (intro w hSw; (try dsimp only at hSw); go_simp; (try with_reducible rfl)); (try simp only [Act.put, List.setIfInBounds_toArray, List.set_cons_zero, List.set_cons_succ]); refine hTake 3 (by kernel_rfl) (by kernel_rfl) (by kernel_rfl) (by decide) (by assumption) ?_; (intro oi hoi; simp only [List.getElem?_toArray, List.getElem?_cons_succ, List.getElem?_cons_zero] at hoi; obtain rfl := Option.some.inj hoi; clear hoi); refine ⟨rfl, ?_⟩; apply Exists.intro; refine ⟨?_, fun _ _ _ h => h, ?_⟩; (intro w hSw; (try dsimp only at hSw); go_simp; (try with_reducible rfl)); (try simp only [Act.put, List.setIfInBounds_toArray, List.set_cons_zero, List.set_cons_succ]); refine hTake 4 (by kernel_rfl) (by kernel_rfl) (by kernel_rfl) (by decide) (by assumption) ?_; (intro oi hoi; simp only [List.getElem?_toArray, List.getElem?_cons_succ, List.getElem?_cons_zero] at hoi; obtain rfl := Option.some.inj hoi; clear hoi); refine ⟨rfl, ?_⟩; apply Exists.intro; refine ⟨?_, fun _ _ _ h => h, ?_⟩; (intro w hSw; (try dsimp only at hSw); go_simp; (try with_reducible rfl)); (try simp only [Act.put, List.setIfInBounds_toArray, List.set_cons_zero, List.set_cons_succ]); refine hTake 5 (by kernel_rfl) (by kernel_rfl) (by kernel_rfl) (by decide) (by assumption) ?_; (intro oi hoi; simp only [List.getElem?_toArray, List.getElem?_cons_succ, List.getElem?_cons_zero] at hoi; obtain rfl := Option.some.inj hoi; clear hoi); refine ⟨rfl, ?_⟩; apply Exists.intro; refine ⟨?_, fun _ _ _ h => h, ?_⟩; (intro w hSw; (try dsimp only at hSw); go_simp; (try with_reducible rfl)); (try simp only [Act.put, List.setIfInBounds_toArray, List.set_cons_zero, List.set_cons_succ]); refine hTake 6 (by kernel_rfl) (by kernel_rfl) (by kernel_rfl) (by decide) (by assumption) ?_; (intro oi hoi; simp only [List.getElem?_toArray, List.getElem?_cons_succ, List.getElem?_cons_zero] at hoi; obtain rfl := Option.some.inj hoi; clear hoi); refine ⟨rfl, ?_⟩; apply Exists.intro; refine ⟨?_, fun _ _ _ h => h, ?_⟩; (intro w hSw; (try dsimp only at hSw); go_simp; (try with_reducible rfl)); (try simp only [Act.put, List.setIfInBounds_toArray, List.set_cons_zero, List.set_cons_succ]); refine hTake 7 (by kernel_rfl) (by kernel_rfl) (by kernel_rfl) (by decide) (by assumption) ?_; (intro oi hoi; simp only [List.getElem?_toArray, List.getElem?_cons_succ, List.getElem?_cons_zero] at hoi; obtain rfl := Option.some.inj hoi; clear hoi); refine ⟨rfl, ?_⟩; apply Exists.intro; refine ⟨?_, fun _ _ _ h => h, ?_⟩; (intro w hSw; (try dsimp only at hSw); go_simp; (try with_reducible rfl)); (try simp only [Act.put, List.setIfInBounds_toArray, List.set_cons_zero, List.set_cons_succ])
            refine hOnly 8 (by kernel_rfl) (by decide) ?_; (intro oi hoi; simp only [List.getElem?_toArray, List.getElem?_cons_succ, List.getElem?_cons_zero] at hoi; obtain rfl := Option.some.inj hoi; clear hoi); intro K hK; go_simp
            go_at_call 75
            refine (before_any x y _).mono ?_
            rw [hlt']
            rintro e w7 ⟨rfl, hb7⟩
            have hEhb7 := Env.step hb7 (by assumption); (try (have hqhb7 := (by with_reducible first | exact Loc.below hb7 (Loc.new (Loc.nil _) _ _) | exact Loc.below hb7 (Loc.drew (Loc.new (Loc.nil _) _ _)) | exact Loc.below hb7 (by assumption : Loc _ [_])); (repeat rw [World.size_drew] at hqhb7); (repeat rw [World.size_alloc] at hqhb7); have hrhb7 := hqhb7; (repeat unfold Loc at hrhb7)))
            (refine hK.out _ _ (by (first | assumption | exact Env.step (by assumption) (by assumption) | exact Env.old (by assumption) _ | exact Env.drew hE | exact hE | exact Env.drew (by assumption) | exact Env.drew (Env.old (by assumption) _) | ((repeat first | refine Env.far0 ?_ (by assumption) _ | refine Env.far1 ?_ (by assumption) _ | refine Env.farA ?_ (by assumption) _); assumption))) (fun hHeld => ?_); clear hK K; (try simp only [Act.put, List.setIfInBounds_toArray, List.set_cons_zero, List.set_cons_succ]))
            refine hTake 9 (by kernel_rfl) (by kernel_rfl) (by kernel_rfl) (by decide) (by assumption) ?_; (intro oi hoi; simp only [List.getElem?_toArray, List.getElem?_cons_succ, List.getElem?_cons_zero] at hoi; obtain rfl := Option.some.inj hoi; clear hoi); refine ⟨rfl, ?_⟩; apply Exists.intro; refine ⟨?_, fun _ _ _ h => h, ?_⟩; (intro w hSw; (try dsimp only at hSw); go_simp; (try with_reducible rfl)); (try simp only [Act.put, List.setIfInBounds_toArray, List.set_cons_zero, List.set_cons_succ])
            refine wpAnyH_done (by kernel_rfl) ?_ _
            have hown6 := hown.below hHeld.1
            have hg6 := grown_below HG.out hHeld.1
            have hlc := HLC.out.below hHeld.1
            (repeat unfold Loc at hlc)
            clear hR hE hHeld
            go_wp2
            refine bodyPost_ret (v := _) (by rw [results_cell_tmp Try.results73]; go_simp; rfl) rfl ⟨?_, ?_⟩
            · rfl
            · exact pop_end hown6 hg6 (by omega) (by omega) HLL.out HDN.out HZ.out
        · have h3' : tlt z2 z1 = false := by simpa using h3
          rw [if_neg (fun h => h3 h.2)] at hcd
          obtain ⟨k, hk⟩ : ∃ k, k = 2 * i' + 2 := ⟨_, rfl⟩
          obtain rfl : x = z1 := by
            have := HX.out
            rw [hcd, hz1] at this
            exact (Option.some.inj this).symm
          rw [← hk] at hz2
          obtain ⟨r1, r2, r3, -⟩ := own_tm hown hz2
          have hR2 : ∀ X, Env wr [] X → X.cell? ⟨g, k * 3, none⟩ = some (.int .i64 z2.s) ∧ X.cell? ⟨g, k * 3 + 1, none⟩ = some (.int .i64 z2.e) ∧ X.cell? ⟨g, k * 3 + 2, none⟩ = some (.int .i64 z2.k) := fun X hX =>
            ⟨(hX.1.cell (p := ⟨g, k * 3, none⟩) hgr).trans r1, (hX.1.cell (p := ⟨g, k * 3 + 1, none⟩) hgr).trans r2, (hX.1.cell (p := ⟨g, k * 3 + 2, none⟩) hgr).trans r3⟩
          have b4 : 2 * (i' : Int) + 1 = (c : Int) := by omega
          have b5 : IntKind.i64.wrap ((c : Int) + 1) = (k : Int) := by rw [IntWalk.i64_in _ (by omega)]; omega
          have b6 : decide ((k : Int) < (n : Int)) = true := by simp; omega
          have j5 : (0 : Int) ≤ (k : Int) := by omega
          have j6 : (k : Int) < (n : Int) := by omega
          rw [b4] at b2 b3
          clear r1 r2 r3 hz1 hz2 hcd hk hll h2 h3
          go_wp2_with fail
          refine wp_region_held_drew (S := Env wr []) (by kernel_rfl) (by (first | assumption | exact Env.step (by assumption) (by assumption) | exact Env.old (by assumption) _ | exact Env.drew hE | exact hE | exact Env.drew (by assumption) | exact Env.drew (Env.old (by assumption) _) | ((repeat first | refine Env.far0 ?_ (by assumption) _ | refine Env.far1 ?_ (by assumption) _ | refine Env.farA ?_ (by assumption) _); assumption))) (fun hHeld => ?_)
          refine hTake 0 (by kernel_rfl) (by kernel_rfl) (by kernel_rfl) (by decide) (by assumption) ?_; (intro oi hoi; simp only [List.getElem?_toArray, List.getElem?_cons_zero] at hoi; obtain rfl := Option.some.inj hoi; clear hoi); refine ⟨rfl, ?_⟩; apply Exists.intro; refine ⟨?_, fun _ _ _ h => h, ?_⟩; (intro w hSw; (try dsimp only at hSw); go_simp; (try with_reducible rfl)); (try simp only [Act.put, List.setIfInBounds_toArray, List.set_cons_zero, List.set_cons_succ]); refine hTake 1 (by kernel_rfl) (by kernel_rfl) (by kernel_rfl) (by decide) (by assumption) ?_; (intro oi hoi; simp only [List.getElem?_toArray, List.getElem?_cons_succ, List.getElem?_cons_zero] at hoi; obtain rfl := Option.some.inj hoi; clear hoi); refine ⟨rfl, ?_⟩; apply Exists.intro; refine ⟨?_, fun _ _ _ h => h, ?_⟩; (intro w hSw; (try dsimp only at hSw); go_simp; (try with_reducible rfl)); (try simp only [Act.put, List.setIfInBounds_toArray, List.set_cons_zero, List.set_cons_succ]); refine hTake 2 (by kernel_rfl) (by kernel_rfl) (by kernel_rfl) (by decide) (by assumption) ?_; (intro oi hoi; simp only [List.getElem?_toArray, List.getElem?_cons_succ, List.getElem?_cons_zero] at hoi; obtain rfl := Option.some.inj hoi; clear hoi); refine ⟨rfl, ?_⟩; apply Exists.intro; refine ⟨?_, fun _ _ _ h => h, ?_⟩; (intro w hSw; (try dsimp only at hSw); go_simp; (try with_reducible rfl)); (try simp only [Act.put, List.setIfInBounds_toArray, List.set_cons_zero, List.set_cons_succ]); refine hTake 3 (by kernel_rfl) (by kernel_rfl) (by kernel_rfl) (by decide) (by assumption) ?_; (intro oi hoi; simp only [List.getElem?_toArray, List.getElem?_cons_succ, List.getElem?_cons_zero] at hoi; obtain rfl := Option.some.inj hoi; clear hoi); refine ⟨rfl, ?_⟩; apply Exists.intro; refine ⟨?_, fun _ _ _ h => h, ?_⟩; (intro w hSw; (try dsimp only at hSw); go_simp; (try with_reducible rfl)); (try simp only [Act.put, List.setIfInBounds_toArray, List.set_cons_zero, List.set_cons_succ]); refine hTake 4 (by kernel_rfl) (by kernel_rfl) (by kernel_rfl) (by decide) (by assumption) ?_; (intro oi hoi; simp only [List.getElem?_toArray, List.getElem?_cons_succ, List.getElem?_cons_zero] at hoi; obtain rfl := Option.some.inj hoi; clear hoi); refine ⟨rfl, ?_⟩; apply Exists.intro; refine ⟨?_, fun _ _ _ h => h, ?_⟩; (intro w hSw; (try dsimp only at hSw); go_simp; (try with_reducible rfl)); (try simp only [Act.put, List.setIfInBounds_toArray, List.set_cons_zero, List.set_cons_succ]); refine hTake 5 (by kernel_rfl) (by kernel_rfl) (by kernel_rfl) (by decide) (by assumption) ?_; (intro oi hoi; simp only [List.getElem?_toArray, List.getElem?_cons_succ, List.getElem?_cons_zero] at hoi; obtain rfl := Option.some.inj hoi; clear hoi); refine ⟨rfl, ?_⟩; apply Exists.intro; refine ⟨?_, fun _ _ _ h => h, ?_⟩; (intro w hSw; (try dsimp only at hSw); go_simp; (try with_reducible rfl)); (try simp only [Act.put, List.setIfInBounds_toArray, List.set_cons_zero, List.set_cons_succ]); refine hTake 6 (by kernel_rfl) (by kernel_rfl) (by kernel_rfl) (by decide) (by assumption) ?_; (intro oi hoi; simp only [List.getElem?_toArray, List.getElem?_cons_succ, List.getElem?_cons_zero] at hoi; obtain rfl := Option.some.inj hoi; clear hoi); refine ⟨rfl, ?_⟩; apply Exists.intro; refine ⟨?_, fun _ _ _ h => h, ?_⟩; (intro w hSw; (try dsimp only at hSw); go_simp; (try with_reducible rfl)); (try simp only [Act.put, List.setIfInBounds_toArray, List.set_cons_zero, List.set_cons_succ]); refine hTake 7 (by kernel_rfl) (by kernel_rfl) (by kernel_rfl) (by decide) (by assumption) ?_; (intro oi hoi; simp only [List.getElem?_toArray, List.getElem?_cons_succ, List.getElem?_cons_zero] at hoi; obtain rfl := Option.some.inj hoi; clear hoi); refine ⟨rfl, ?_⟩; apply Exists.intro; refine ⟨?_, fun _ _ _ h => h, ?_⟩; (intro w hSw; (try dsimp only at hSw); go_simp; (try with_reducible rfl)); (try simp only [Act.put, List.setIfInBounds_toArray, List.set_cons_zero, List.set_cons_succ]); refine hTake 8 (by kernel_rfl) (by kernel_rfl) (by kernel_rfl) (by decide) (by assumption) ?_; (intro oi hoi; simp only [List.getElem?_toArray, List.getElem?_cons_succ, List.getElem?_cons_zero] at hoi; obtain rfl := Option.some.inj hoi; clear hoi); refine ⟨rfl, ?_⟩; apply Exists.intro; refine ⟨?_, fun _ _ _ h => h, ?_⟩; (intro w hSw; (try dsimp only at hSw); go_simp; (try with_reducible rfl)); (try simp only [Act.put, List.setIfInBounds_toArray, List.set_cons_zero, List.set_cons_succ]); refine hTake 9 (by kernel_rfl) (by kernel_rfl) (by kernel_rfl) (by decide) (by assumption) ?_; (intro oi hoi; simp only [List.getElem?_toArray, List.getElem?_cons_succ, List.getElem?_cons_zero] at hoi; obtain rfl := Option.some.inj hoi; clear hoi); refine ⟨rfl, ?_⟩; apply Exists.intro; refine ⟨?_, fun _ _ _ h => h, ?_⟩; (intro w hSw; (try dsimp only at hSw); go_simp; (try with_reducible rfl)); (try simp only [Act.put, List.setIfInBounds_toArray, List.set_cons_zero, List.set_cons_succ]); refine hTake 10 (by kernel_rfl) (by kernel_rfl) (by kernel_rfl) (by decide) (by assumption) ?_; (intro oi hoi; simp only [List.getElem?_toArray, List.getElem?_cons_succ, List.getElem?_cons_zero] at hoi; obtain rfl := Option.some.inj hoi; clear hoi); refine ⟨rfl, ?_⟩; apply Exists.intro; refine ⟨?_, fun _ _ _ h => h, ?_⟩; (intro w hSw; (try dsimp only at hSw); go_simp; (try with_reducible rfl)); (try simp only [Act.put, List.setIfInBounds_toArray, List.set_cons_zero, List.set_cons_succ]); refine hTake 11 (by kernel_rfl) (by kernel_rfl) (by kernel_rfl) (by decide) (by assumption) ?_; (intro oi hoi; simp only [List.getElem?_toArray, List.getElem?_cons_succ, List.getElem?_cons_zero] at hoi; obtain rfl := Option.some.inj hoi; clear hoi); refine ⟨rfl, ?_⟩; apply Exists.intro; refine ⟨?_, fun _ _ _ h => h, ?_⟩; (intro w hSw; (try dsimp only at hSw); go_simp; (try with_reducible rfl)); (try simp only [Act.put, List.setIfInBounds_toArray, List.set_cons_zero, List.set_cons_succ]); refine hTake 12 (by kernel_rfl) (by kernel_rfl) (by kernel_rfl) (by decide) (by assumption) ?_; (intro oi hoi; simp only [List.getElem?_toArray, List.getElem?_cons_succ, List.getElem?_cons_zero] at hoi; obtain rfl := Option.some.inj hoi; clear hoi); refine ⟨rfl, ?_⟩; apply Exists.intro; refine ⟨?_, fun _ _ _ h => h, ?_⟩; (intro w hSw; (try dsimp only at hSw); go_simp; (try with_reducible rfl)); (try simp only [Act.put, List.setIfInBounds_toArray, List.set_cons_zero, List.set_cons_succ]); refine hTake 13 (by kernel_rfl) (by kernel_rfl) (by kernel_rfl) (by decide) (by assumption) ?_; (intro oi hoi; simp only [List.getElem?_toArray, List.getElem?_cons_succ, List.getElem?_cons_zero] at hoi; obtain rfl := Option.some.inj hoi; clear hoi); refine ⟨rfl, ?_⟩; apply Exists.intro; refine ⟨?_, fun _ _ _ h => h, ?_⟩; (intro w hSw; (try dsimp only at hSw); go_simp; (try with_reducible rfl)); (try simp only [Act.put, List.setIfInBounds_toArray, List.set_cons_zero, List.set_cons_succ])
          refine hOnly 14 (by kernel_rfl) (by decide) ?_; (intro oi hoi; simp only [List.getElem?_toArray, List.getElem?_cons_succ, List.getElem?_cons_zero] at hoi; obtain rfl := Option.some.inj hoi; clear hoi); intro K hK; go_simp
          go_at_call 75
          refine (before_any z2 x _).mono ?_
          rw [h3']
          rintro e w6 ⟨rfl, hb6⟩
          have hEhb6 := Env.step hb6 (by assumption); (try (have hqhb6 := (by with_reducible first | exact Loc.below hb6 (Loc.new (Loc.nil _) _ _) | exact Loc.below hb6 (Loc.drew (Loc.new (Loc.nil _) _ _)) | exact Loc.below hb6 (by assumption : Loc _ [_])); (repeat rw [World.size_drew] at hqhb6); (repeat rw [World.size_alloc] at hqhb6); have hrhb6 := hqhb6; (repeat unfold Loc at hrhb6)))
          (refine hK.out _ _ (by (first | assumption | exact Env.step (by assumption) (by assumption) | exact Env.old (by assumption) _ | exact Env.drew hE | exact hE | exact Env.drew (by assumption) | exact Env.drew (Env.old (by assumption) _) | ((repeat first | refine Env.far0 ?_ (by assumption) _ | refine Env.far1 ?_ (by assumption) _ | refine Env.farA ?_ (by assumption) _); assumption))) (fun hHeld => ?_); clear hK K; (try simp only [Act.put, List.setIfInBounds_toArray, List.set_cons_zero, List.set_cons_succ]))
          refine hTake 15 (by kernel_rfl) (by kernel_rfl) (by kernel_rfl) (by decide) (by assumption) ?_; (intro oi hoi; simp only [List.getElem?_toArray, List.getElem?_cons_succ, List.getElem?_cons_zero] at hoi; obtain rfl := Option.some.inj hoi; clear hoi); refine ⟨rfl, ?_⟩; apply Exists.intro; refine ⟨?_, fun _ _ _ h => h, ?_⟩; (intro w hSw; (try dsimp only at hSw); go_simp; (try with_reducible rfl)); (try simp only [Act.put, List.setIfInBounds_toArray, List.set_cons_zero, List.set_cons_succ])
          refine wpAnyH_done (by kernel_rfl) ?_ _
          clear hR2 j5 j6
          go_wp2_with fail
          by_cases hlt : tlt x y = true
          · obtain ⟨f2, -, e1, e2⟩ := dn_step (lt := tlt) (d := t0) (m := f) (l := l') (i := i') (by rw [HLL.out]; exact hc) (by rw [HLL.out]; exact hif) (by rw [← HCE.out, GX.out, GY.out]; exact hlt)
            rw [← HCE.out] at e1 e2
            rw [HLL.out] at e2
            have E1 := Lib.hid e1
            clear e1
            refine wp_region_held_drew (S := Env wr []) (by kernel_rfl) (by (first | assumption | exact Env.step (by assumption) (by assumption) | exact Env.old (by assumption) _ | exact Env.drew hE | exact hE | exact Env.drew (by assumption) | exact Env.drew (Env.old (by assumption) _) | ((repeat first | refine Env.far0 ?_ (by assumption) _ | refine Env.far1 ?_ (by assumption) _ | refine Env.farA ?_ (by assumption) _); assumption))) (fun hHeld => ?_)
            refine hTake 0 (by kernel_rfl) (by kernel_rfl) (by kernel_rfl) (by decide) (by assumption) ?_; (intro oi hoi; simp only [List.getElem?_toArray, List.getElem?_cons_zero] at hoi; obtain rfl := Option.some.inj hoi; clear hoi); refine ⟨rfl, ?_⟩; apply Exists.intro; refine ⟨?_, fun _ _ _ h => h, ?_⟩; (intro w hSw; (try dsimp only at hSw); go_simp; (try with_reducible rfl)); (try simp only [Act.put, List.setIfInBounds_toArray, List.set_cons_zero, List.set_cons_succ]); refine hTake 1 (by kernel_rfl) (by kernel_rfl) (by kernel_rfl) (by decide) (by assumption) ?_; (intro oi hoi; simp only [List.getElem?_toArray, List.getElem?_cons_succ, List.getElem?_cons_zero] at hoi; obtain rfl := Option.some.inj hoi; clear hoi); refine ⟨rfl, ?_⟩; apply Exists.intro; refine ⟨?_, fun _ _ _ h => h, ?_⟩; (intro w hSw; (try dsimp only at hSw); go_simp; (try with_reducible rfl)); (try simp only [Act.put, List.setIfInBounds_toArray, List.set_cons_zero, List.set_cons_succ]); refine hTake 2 (by kernel_rfl) (by kernel_rfl) (by kernel_rfl) (by decide) (by assumption) ?_; (intro oi hoi; simp only [List.getElem?_toArray, List.getElem?_cons_succ, List.getElem?_cons_zero] at hoi; obtain rfl := Option.some.inj hoi; clear hoi); refine ⟨rfl, ?_⟩; apply Exists.intro; refine ⟨?_, fun _ _ _ h => h, ?_⟩; (intro w hSw; (try dsimp only at hSw); go_simp; (try with_reducible rfl)); (try simp only [Act.put, List.setIfInBounds_toArray, List.set_cons_zero, List.set_cons_succ]); refine hTake 3 (by kernel_rfl) (by kernel_rfl) (by kernel_rfl) (by decide) (by assumption) ?_; (intro oi hoi; simp only [List.getElem?_toArray, List.getElem?_cons_succ, List.getElem?_cons_zero] at hoi; obtain rfl := Option.some.inj hoi; clear hoi); refine ⟨rfl, ?_⟩; apply Exists.intro; refine ⟨?_, fun _ _ _ h => h, ?_⟩; (intro w hSw; (try dsimp only at hSw); go_simp; (try with_reducible rfl)); (try simp only [Act.put, List.setIfInBounds_toArray, List.set_cons_zero, List.set_cons_succ]); refine hTake 4 (by kernel_rfl) (by kernel_rfl) (by kernel_rfl) (by decide) (by assumption) ?_; (intro oi hoi; simp only [List.getElem?_toArray, List.getElem?_cons_succ, List.getElem?_cons_zero] at hoi; obtain rfl := Option.some.inj hoi; clear hoi); refine ⟨rfl, ?_⟩; apply Exists.intro; refine ⟨?_, fun _ _ _ h => h, ?_⟩; (intro w hSw; (try dsimp only at hSw); go_simp; (try with_reducible rfl)); (try simp only [Act.put, List.setIfInBounds_toArray, List.set_cons_zero, List.set_cons_succ]); refine hTake 5 (by kernel_rfl) (by kernel_rfl) (by kernel_rfl) (by decide) (by assumption) ?_; (intro oi hoi; simp only [List.getElem?_toArray, List.getElem?_cons_succ, List.getElem?_cons_zero] at hoi; obtain rfl := Option.some.inj hoi; clear hoi); refine ⟨rfl, ?_⟩; apply Exists.intro; refine ⟨?_, fun _ _ _ h => h, ?_⟩; (intro w hSw; (try dsimp only at hSw); go_simp; (try with_reducible rfl)); (try simp only [Act.put, List.setIfInBounds_toArray, List.set_cons_zero, List.set_cons_succ]); refine hTake 6 (by kernel_rfl) (by kernel_rfl) (by kernel_rfl) (by decide) (by assumption) ?_; (intro oi hoi; simp only [List.getElem?_toArray, List.getElem?_cons_succ, List.getElem?_cons_zero] at hoi; obtain rfl := Option.some.inj hoi; clear hoi); refine ⟨rfl, ?_⟩; apply Exists.intro; refine ⟨?_, fun _ _ _ h => h, ?_⟩; (intro w hSw; (try dsimp only at hSw); go_simp; (try with_reducible rfl)); (try simp only [Act.put, List.setIfInBounds_toArray, List.set_cons_zero, List.set_cons_succ]); refine hTake 7 (by kernel_rfl) (by kernel_rfl) (by kernel_rfl) (by decide) (by assumption) ?_; (intro oi hoi; simp only [List.getElem?_toArray, List.getElem?_cons_succ, List.getElem?_cons_zero] at hoi; obtain rfl := Option.some.inj hoi; clear hoi); refine ⟨rfl, ?_⟩; apply Exists.intro; refine ⟨?_, fun _ _ _ h => h, ?_⟩; (intro w hSw; (try dsimp only at hSw); go_simp; (try with_reducible rfl)); (try simp only [Act.put, List.setIfInBounds_toArray, List.set_cons_zero, List.set_cons_succ])
            refine hOnly 8 (by kernel_rfl) (by decide) ?_; (intro oi hoi; simp only [List.getElem?_toArray, List.getElem?_cons_succ, List.getElem?_cons_zero] at hoi; obtain rfl := Option.some.inj hoi; clear hoi); intro K hK; go_simp
            go_at_call 75
            refine (before_any x y _).mono ?_
            rw [hlt]
            rintro e w7 ⟨rfl, hb7⟩
            have hEhb7 := Env.step hb7 (by assumption); (try (have hqhb7 := (by with_reducible first | exact Loc.below hb7 (Loc.new (Loc.nil _) _ _) | exact Loc.below hb7 (Loc.drew (Loc.new (Loc.nil _) _ _)) | exact Loc.below hb7 (by assumption : Loc _ [_])); (repeat rw [World.size_drew] at hqhb7); (repeat rw [World.size_alloc] at hqhb7); have hrhb7 := hqhb7; (repeat unfold Loc at hrhb7)))
            (refine hK.out _ _ (by (first | assumption | exact Env.step (by assumption) (by assumption) | exact Env.old (by assumption) _ | exact Env.drew hE | exact hE | exact Env.drew (by assumption) | exact Env.drew (Env.old (by assumption) _) | ((repeat first | refine Env.far0 ?_ (by assumption) _ | refine Env.far1 ?_ (by assumption) _ | refine Env.farA ?_ (by assumption) _); assumption))) (fun hHeld => ?_); clear hK K; (try simp only [Act.put, List.setIfInBounds_toArray, List.set_cons_zero, List.set_cons_succ]))
            refine hTake 9 (by kernel_rfl) (by kernel_rfl) (by kernel_rfl) (by decide) (by assumption) ?_; (intro oi hoi; simp only [List.getElem?_toArray, List.getElem?_cons_succ, List.getElem?_cons_zero] at hoi; obtain rfl := Option.some.inj hoi; clear hoi); refine ⟨rfl, ?_⟩; apply Exists.intro; refine ⟨?_, fun _ _ _ h => h, ?_⟩; (intro w hSw; (try dsimp only at hSw); go_simp; (try with_reducible rfl)); (try simp only [Act.put, List.setIfInBounds_toArray, List.set_cons_zero, List.set_cons_succ])
            refine wpAnyH_done (by kernel_rfl) ?_ _
            have hown6 := hown.below hHeld.1
            have hg6 := grown_below HG.out hHeld.1
            have hl6 := HLC.out.below hHeld.1
            have HG6 := Lib.hid hg6
            have HL6 := Lib.hid hl6
            obtain ⟨p1, p2, p3, hg7⟩ := own_tm hown6 HX.out
            obtain ⟨s1, s2, s3, -⟩ := own_tm hown6 HY.out
            have frz6 := own_frz hown6 HLL.out.symm
            have hsw : sw t0 l' i' c = (l'.set i' x).set c y := by unfold sw; rw [GX.out, GY.out]
            have HSW := Lib.hid hsw
            have hne : i' ≠ c := by omega
            clear hsw hR hE hHeld hg6 hl6
            go_wp2
            go_region
            all_goals
              go_wp2
              go_roundw
              case rel =>
                have h1 := Own.set tenc_len hown6 HLL.out.symm i' (by rw [HLL.out]; omega) x
                have h2 := Own.set tenc_len h1.1 (by simp [HLL.out]) c (by simp; rw [HLL.out]; omega) y
                have hneq : ∀ q ∈ [(w.heap.size + 1, [Value.int .i64 x0.s, .int .i64 x0.e, .int .i64 x0.k]), (w.heap.size, [Value.int .i64 0, .int .i64 0, .int .i64 0])], q.1 ≠ g := by
                  intro q hq; simp at hq; rcases hq with rfl | rfl <;> (simp; omega)
                exact ⟨f2, c, sw t0 l' i' c, by go_num, by rw [sw_length, HLL.out], e2, by omega, by rw [← E1.out, HDN.out], by rw [HSW.out]; exact own_drew h2.1, (Loc.putW hneq (tenc y) 0 _ (Loc.putW hneq (tenc x) 0 _ HL6.out)).drew, grown_drew (grown_trans (grown_trans HG6.out h1.2) h2.2)⟩
              case measure => simp [intOf]; omega
          · have hlt' : tlt x y = false := by simpa using hlt
            have hz : dn tlt t0 f l' i' = l' := dn_stop _ _ (by rw [← HCE.out, GX.out, GY.out]; intro h; exact hlt h.2)
            have HZ := Lib.hid hz
            clear hz hlt
            refine wp_region_held_drew (S := Env wr []) (by kernel_rfl) (by (first | assumption | exact Env.step (by assumption) (by assumption) | exact Env.old (by assumption) _ | exact Env.drew hE | exact hE | exact Env.drew (by assumption) | exact Env.drew (Env.old (by assumption) _) | ((repeat first | refine Env.far0 ?_ (by assumption) _ | refine Env.far1 ?_ (by assumption) _ | refine Env.farA ?_ (by assumption) _); assumption))) (fun hHeld => ?_)
            refine hTake 0 (by kernel_rfl) (by kernel_rfl) (by kernel_rfl) (by decide) (by assumption) ?_; (intro oi hoi; simp only [List.getElem?_toArray, List.getElem?_cons_zero] at hoi; obtain rfl := Option.some.inj hoi; clear hoi); refine ⟨rfl, ?_⟩; apply Exists.intro; refine ⟨?_, fun _ _ _ h => h, ?_⟩; (intro w hSw; (try dsimp only at hSw); go_simp; (try with_reducible rfl)); (try simp only [Act.put, List.setIfInBounds_toArray, List.set_cons_zero, List.set_cons_succ]); refine hTake 1 (by kernel_rfl) (by kernel_rfl) (by kernel_rfl) (by decide) (by assumption) ?_; (intro oi hoi; simp only [List.getElem?_toArray, List.getElem?_cons_succ, List.getElem?_cons_zero] at hoi; obtain rfl := Option.some.inj hoi; clear hoi); refine ⟨rfl, ?_⟩; apply Exists.intro; refine ⟨?_, fun _ _ _ h => h, ?_⟩; (intro w hSw; (try dsimp only at hSw); go_simp; (try with_reducible rfl)); (try simp only [Act.put, List.setIfInBounds_toArray, List.set_cons_zero, List.set_cons_succ]); refine hTake 2 (by kernel_rfl) (by kernel_rfl) (by kernel_rfl) (by decide) (by assumption) ?_; (intro oi hoi; simp only [List.getElem?_toArray, List.getElem?_cons_succ, List.getElem?_cons_zero] at hoi; obtain rfl := Option.some.inj hoi; clear hoi); refine ⟨rfl, ?_⟩; apply Exists.intro; refine ⟨?_, fun _ _ _ h => h, ?_⟩; (intro w hSw; (try dsimp only at hSw); go_simp; (try with_reducible rfl)); (try simp only [Act.put, List.setIfInBounds_toArray, List.set_cons_zero, List.set_cons_succ]); refine hTake 3 (by kernel_rfl) (by kernel_rfl) (by kernel_rfl) (by decide) (by assumption) ?_; (intro oi hoi; simp only [List.getElem?_toArray, List.getElem?_cons_succ, List.getElem?_cons_zero] at hoi; obtain rfl := Option.some.inj hoi; clear hoi); refine ⟨rfl, ?_⟩; apply Exists.intro; refine ⟨?_, fun _ _ _ h => h, ?_⟩; (intro w hSw; (try dsimp only at hSw); go_simp; (try with_reducible rfl)); (try simp only [Act.put, List.setIfInBounds_toArray, List.set_cons_zero, List.set_cons_succ]); refine hTake 4 (by kernel_rfl) (by kernel_rfl) (by kernel_rfl) (by decide) (by assumption) ?_; (intro oi hoi; simp only [List.getElem?_toArray, List.getElem?_cons_succ, List.getElem?_cons_zero] at hoi; obtain rfl := Option.some.inj hoi; clear hoi); refine ⟨rfl, ?_⟩; apply Exists.intro; refine ⟨?_, fun _ _ _ h => h, ?_⟩; (intro w hSw; (try dsimp only at hSw); go_simp; (try with_reducible rfl)); (try simp only [Act.put, List.setIfInBounds_toArray, List.set_cons_zero, List.set_cons_succ]); refine hTake 5 (by kernel_rfl) (by kernel_rfl) (by kernel_rfl) (by decide) (by assumption) ?_; (intro oi hoi; simp only [List.getElem?_toArray, List.getElem?_cons_succ, List.getElem?_cons_zero] at hoi; obtain rfl := Option.some.inj hoi; clear hoi); refine ⟨rfl, ?_⟩; apply Exists.intro; refine ⟨?_, fun _ _ _ h => h, ?_⟩; (intro w hSw; (try dsimp only at hSw); go_simp; (try with_reducible rfl)); (try simp only [Act.put, List.setIfInBounds_toArray, List.set_cons_zero, List.set_cons_succ]); refine hTake 6 (by kernel_rfl) (by kernel_rfl) (by kernel_rfl) (by decide) (by assumption) ?_; (intro oi hoi; simp only [List.getElem?_toArray, List.getElem?_cons_succ, List.getElem?_cons_zero] at hoi; obtain rfl := Option.some.inj hoi; clear hoi); refine ⟨rfl, ?_⟩; apply Exists.intro; refine ⟨?_, fun _ _ _ h => h, ?_⟩; (intro w hSw; (try dsimp only at hSw); go_simp; (try with_reducible rfl)); (try simp only [Act.put, List.setIfInBounds_toArray, List.set_cons_zero, List.set_cons_succ]); refine hTake 7 (by kernel_rfl) (by kernel_rfl) (by kernel_rfl) (by decide) (by assumption) ?_; (intro oi hoi; simp only [List.getElem?_toArray, List.getElem?_cons_succ, List.getElem?_cons_zero] at hoi; obtain rfl := Option.some.inj hoi; clear hoi); refine ⟨rfl, ?_⟩; apply Exists.intro; refine ⟨?_, fun _ _ _ h => h, ?_⟩; (intro w hSw; (try dsimp only at hSw); go_simp; (try with_reducible rfl)); (try simp only [Act.put, List.setIfInBounds_toArray, List.set_cons_zero, List.set_cons_succ])
            refine hOnly 8 (by kernel_rfl) (by decide) ?_; (intro oi hoi; simp only [List.getElem?_toArray, List.getElem?_cons_succ, List.getElem?_cons_zero] at hoi; obtain rfl := Option.some.inj hoi; clear hoi); intro K hK; go_simp
            go_at_call 75
            refine (before_any x y _).mono ?_
            rw [hlt']
            rintro e w7 ⟨rfl, hb7⟩
            have hEhb7 := Env.step hb7 (by assumption); (try (have hqhb7 := (by with_reducible first | exact Loc.below hb7 (Loc.new (Loc.nil _) _ _) | exact Loc.below hb7 (Loc.drew (Loc.new (Loc.nil _) _ _)) | exact Loc.below hb7 (by assumption : Loc _ [_])); (repeat rw [World.size_drew] at hqhb7); (repeat rw [World.size_alloc] at hqhb7); have hrhb7 := hqhb7; (repeat unfold Loc at hrhb7)))
            (refine hK.out _ _ (by (first | assumption | exact Env.step (by assumption) (by assumption) | exact Env.old (by assumption) _ | exact Env.drew hE | exact hE | exact Env.drew (by assumption) | exact Env.drew (Env.old (by assumption) _) | ((repeat first | refine Env.far0 ?_ (by assumption) _ | refine Env.far1 ?_ (by assumption) _ | refine Env.farA ?_ (by assumption) _); assumption))) (fun hHeld => ?_); clear hK K; (try simp only [Act.put, List.setIfInBounds_toArray, List.set_cons_zero, List.set_cons_succ]))
            refine hTake 9 (by kernel_rfl) (by kernel_rfl) (by kernel_rfl) (by decide) (by assumption) ?_; (intro oi hoi; simp only [List.getElem?_toArray, List.getElem?_cons_succ, List.getElem?_cons_zero] at hoi; obtain rfl := Option.some.inj hoi; clear hoi); refine ⟨rfl, ?_⟩; apply Exists.intro; refine ⟨?_, fun _ _ _ h => h, ?_⟩; (intro w hSw; (try dsimp only at hSw); go_simp; (try with_reducible rfl)); (try simp only [Act.put, List.setIfInBounds_toArray, List.set_cons_zero, List.set_cons_succ])
            refine wpAnyH_done (by kernel_rfl) ?_ _
            have hown6 := hown.below hHeld.1
            have hg6 := grown_below HG.out hHeld.1
            have hlc := HLC.out.below hHeld.1
            (repeat unfold Loc at hlc)
            clear hR hE hHeld
            go_wp2
            refine bodyPost_ret (v := _) (by rw [results_cell_tmp Try.results73]; go_simp; rfl) rfl ⟨?_, ?_⟩
            · rfl
            · exact pop_end hown6 hg6 (by omega) (by omega) HLL.out HDN.out HZ.out
      · rw [if_neg (fun h => h2 h.1)] at hcd
        have b4 : 2 * (i' : Int) + 1 = (c : Int) := by omega
        have b5 : IntKind.i64.wrap ((c : Int) + 1) = (c : Int) + 1 := IntWalk.i64_in _ (by omega)
        have b6 : decide ((c : Int) + 1 < (n : Int)) = false := by simp; omega
        have b7 : decide (c + 1 < n) = false := by simp; omega
        rw [b4] at b2 b3
        clear hcd hll h2
        go_wp2_with fail
        refine wp_region_held_drew (S := Env wr []) (by kernel_rfl) (by (first | assumption | exact Env.step (by assumption) (by assumption) | exact Env.old (by assumption) _ | exact Env.drew hE | exact hE | exact Env.drew (by assumption) | exact Env.drew (Env.old (by assumption) _) | ((repeat first | refine Env.far0 ?_ (by assumption) _ | refine Env.far1 ?_ (by assumption) _ | refine Env.farA ?_ (by assumption) _); assumption))) (fun hHeld => ?_)
        refine hTake 0 (by kernel_rfl) (by kernel_rfl) (by kernel_rfl) (by decide) (by assumption) ?_; (intro oi hoi; simp only [List.getElem?_toArray, List.getElem?_cons_zero] at hoi; obtain rfl := Option.some.inj hoi; clear hoi); refine ⟨rfl, ?_⟩; apply Exists.intro; refine ⟨?_, fun _ _ _ h => h, ?_⟩; (intro w hSw; (try dsimp only at hSw); go_simp; (try with_reducible rfl)); (try simp only [Act.put, List.setIfInBounds_toArray, List.set_cons_zero, List.set_cons_succ]); refine hTake 1 (by kernel_rfl) (by kernel_rfl) (by kernel_rfl) (by decide) (by assumption) ?_; (intro oi hoi; simp only [List.getElem?_toArray, List.getElem?_cons_succ, List.getElem?_cons_zero] at hoi; obtain rfl := Option.some.inj hoi; clear hoi); refine ⟨rfl, ?_⟩; apply Exists.intro; refine ⟨?_, fun _ _ _ h => h, ?_⟩; (intro w hSw; (try dsimp only at hSw); go_simp; (try with_reducible rfl)); (try simp only [Act.put, List.setIfInBounds_toArray, List.set_cons_zero, List.set_cons_succ]); refine hTake 2 (by kernel_rfl) (by kernel_rfl) (by kernel_rfl) (by decide) (by assumption) ?_; (intro oi hoi; simp only [List.getElem?_toArray, List.getElem?_cons_succ, List.getElem?_cons_zero] at hoi; obtain rfl := Option.some.inj hoi; clear hoi); refine ⟨rfl, ?_⟩; apply Exists.intro; refine ⟨?_, fun _ _ _ h => h, ?_⟩; (intro w hSw; (try dsimp only at hSw); go_simp; (try with_reducible rfl)); (try simp only [Act.put, List.setIfInBounds_toArray, List.set_cons_zero, List.set_cons_succ]); refine hTake 3 (by kernel_rfl) (by kernel_rfl) (by kernel_rfl) (by decide) (by assumption) ?_; (intro oi hoi; simp only [List.getElem?_toArray, List.getElem?_cons_succ, List.getElem?_cons_zero] at hoi; obtain rfl := Option.some.inj hoi; clear hoi); refine ⟨rfl, ?_⟩; apply Exists.intro; refine ⟨?_, fun _ _ _ h => h, ?_⟩; (intro w hSw; (try dsimp only at hSw); go_simp; (try with_reducible rfl)); (try simp only [Act.put, List.setIfInBounds_toArray, List.set_cons_zero, List.set_cons_succ]); refine hTake 4 (by kernel_rfl) (by kernel_rfl) (by kernel_rfl) (by decide) (by assumption) ?_; (intro oi hoi; simp only [List.getElem?_toArray, List.getElem?_cons_succ, List.getElem?_cons_zero] at hoi; obtain rfl := Option.some.inj hoi; clear hoi); refine ⟨rfl, ?_⟩; apply Exists.intro; refine ⟨?_, fun _ _ _ h => h, ?_⟩; (intro w hSw; (try dsimp only at hSw); go_simp; (try with_reducible rfl)); (try simp only [Act.put, List.setIfInBounds_toArray, List.set_cons_zero, List.set_cons_succ])
        refine hSkip 5 (by kernel_rfl) (by kernel_rfl) (by kernel_rfl) (by decide) (by assumption) ?_; (intro oi hoi; simp only [List.getElem?_toArray, List.getElem?_cons_succ, List.getElem?_cons_zero] at hoi; obtain rfl := Option.some.inj hoi; clear hoi); refine ⟨rfl, fun _ _ _ h => h, ?_⟩; (try simp only [Act.put, List.setIfInBounds_toArray, List.set_cons_zero, List.set_cons_succ]); refine hSkip 6 (by kernel_rfl) (by kernel_rfl) (by kernel_rfl) (by decide) (by assumption) ?_; (intro oi hoi; simp only [List.getElem?_toArray, List.getElem?_cons_succ, List.getElem?_cons_zero] at hoi; obtain rfl := Option.some.inj hoi; clear hoi); refine ⟨rfl, fun _ _ _ h => h, ?_⟩; (try simp only [Act.put, List.setIfInBounds_toArray, List.set_cons_zero, List.set_cons_succ]); refine hSkip 7 (by kernel_rfl) (by kernel_rfl) (by kernel_rfl) (by decide) (by assumption) ?_; (intro oi hoi; simp only [List.getElem?_toArray, List.getElem?_cons_succ, List.getElem?_cons_zero] at hoi; obtain rfl := Option.some.inj hoi; clear hoi); refine ⟨rfl, fun _ _ _ h => h, ?_⟩; (try simp only [Act.put, List.setIfInBounds_toArray, List.set_cons_zero, List.set_cons_succ]); refine hSkip 8 (by kernel_rfl) (by kernel_rfl) (by kernel_rfl) (by decide) (by assumption) ?_; (intro oi hoi; simp only [List.getElem?_toArray, List.getElem?_cons_succ, List.getElem?_cons_zero] at hoi; obtain rfl := Option.some.inj hoi; clear hoi); refine ⟨rfl, fun _ _ _ h => h, ?_⟩; (try simp only [Act.put, List.setIfInBounds_toArray, List.set_cons_zero, List.set_cons_succ]); refine hSkip 9 (by kernel_rfl) (by kernel_rfl) (by kernel_rfl) (by decide) (by assumption) ?_; (intro oi hoi; simp only [List.getElem?_toArray, List.getElem?_cons_succ, List.getElem?_cons_zero] at hoi; obtain rfl := Option.some.inj hoi; clear hoi); refine ⟨rfl, fun _ _ _ h => h, ?_⟩; (try simp only [Act.put, List.setIfInBounds_toArray, List.set_cons_zero, List.set_cons_succ]); refine hSkip 10 (by kernel_rfl) (by kernel_rfl) (by kernel_rfl) (by decide) (by assumption) ?_; (intro oi hoi; simp only [List.getElem?_toArray, List.getElem?_cons_succ, List.getElem?_cons_zero] at hoi; obtain rfl := Option.some.inj hoi; clear hoi); refine ⟨rfl, fun _ _ _ h => h, ?_⟩; (try simp only [Act.put, List.setIfInBounds_toArray, List.set_cons_zero, List.set_cons_succ]); refine hSkip 11 (by kernel_rfl) (by kernel_rfl) (by kernel_rfl) (by decide) (by assumption) ?_; (intro oi hoi; simp only [List.getElem?_toArray, List.getElem?_cons_succ, List.getElem?_cons_zero] at hoi; obtain rfl := Option.some.inj hoi; clear hoi); refine ⟨rfl, fun _ _ _ h => h, ?_⟩; (try simp only [Act.put, List.setIfInBounds_toArray, List.set_cons_zero, List.set_cons_succ]); refine hSkip 12 (by kernel_rfl) (by kernel_rfl) (by kernel_rfl) (by decide) (by assumption) ?_; (intro oi hoi; simp only [List.getElem?_toArray, List.getElem?_cons_succ, List.getElem?_cons_zero] at hoi; obtain rfl := Option.some.inj hoi; clear hoi); refine ⟨rfl, fun _ _ _ h => h, ?_⟩; (try simp only [Act.put, List.setIfInBounds_toArray, List.set_cons_zero, List.set_cons_succ]); refine hSkip 13 (by kernel_rfl) (by kernel_rfl) (by kernel_rfl) (by decide) (by assumption) ?_; (intro oi hoi; simp only [List.getElem?_toArray, List.getElem?_cons_succ, List.getElem?_cons_zero] at hoi; obtain rfl := Option.some.inj hoi; clear hoi); refine ⟨rfl, fun _ _ _ h => h, ?_⟩; (try simp only [Act.put, List.setIfInBounds_toArray, List.set_cons_zero, List.set_cons_succ]); refine hSkip 14 (by kernel_rfl) (by kernel_rfl) (by kernel_rfl) (by decide) (by assumption) ?_; (intro oi hoi; simp only [List.getElem?_toArray, List.getElem?_cons_succ, List.getElem?_cons_zero] at hoi; obtain rfl := Option.some.inj hoi; clear hoi); refine ⟨rfl, fun _ _ _ h => h, ?_⟩; (try simp only [Act.put, List.setIfInBounds_toArray, List.set_cons_zero, List.set_cons_succ])
        refine hTake 15 (by kernel_rfl) (by kernel_rfl) (by kernel_rfl) (by decide) (by assumption) ?_; (intro oi hoi; simp only [List.getElem?_toArray, List.getElem?_cons_succ, List.getElem?_cons_zero] at hoi; obtain rfl := Option.some.inj hoi; clear hoi); refine ⟨rfl, ?_⟩; apply Exists.intro; refine ⟨?_, fun _ _ _ h => h, ?_⟩; (intro w hSw; (try dsimp only at hSw); go_simp; (try with_reducible rfl)); (try simp only [Act.put, List.setIfInBounds_toArray, List.set_cons_zero, List.set_cons_succ])
        refine wpAnyH_done (by kernel_rfl) ?_ _
        go_wp2_with fail
        by_cases hlt : tlt x y = true
        · obtain ⟨f2, -, e1, e2⟩ := dn_step (lt := tlt) (d := t0) (m := f) (l := l') (i := i') (by rw [HLL.out]; exact hc) (by rw [HLL.out]; exact hif) (by rw [← HCE.out, GX.out, GY.out]; exact hlt)
          rw [← HCE.out] at e1 e2
          rw [HLL.out] at e2
          have E1 := Lib.hid e1
          clear e1
          refine wp_region_held_drew (S := Env wr []) (by kernel_rfl) (by (first | assumption | exact Env.step (by assumption) (by assumption) | exact Env.old (by assumption) _ | exact Env.drew hE | exact hE | exact Env.drew (by assumption) | exact Env.drew (Env.old (by assumption) _) | ((repeat first | refine Env.far0 ?_ (by assumption) _ | refine Env.far1 ?_ (by assumption) _ | refine Env.farA ?_ (by assumption) _); assumption))) (fun hHeld => ?_)
          refine hTake 0 (by kernel_rfl) (by kernel_rfl) (by kernel_rfl) (by decide) (by assumption) ?_; (intro oi hoi; simp only [List.getElem?_toArray, List.getElem?_cons_zero] at hoi; obtain rfl := Option.some.inj hoi; clear hoi); refine ⟨rfl, ?_⟩; apply Exists.intro; refine ⟨?_, fun _ _ _ h => h, ?_⟩; (intro w hSw; (try dsimp only at hSw); go_simp; (try with_reducible rfl)); (try simp only [Act.put, List.setIfInBounds_toArray, List.set_cons_zero, List.set_cons_succ]); refine hTake 1 (by kernel_rfl) (by kernel_rfl) (by kernel_rfl) (by decide) (by assumption) ?_; (intro oi hoi; simp only [List.getElem?_toArray, List.getElem?_cons_succ, List.getElem?_cons_zero] at hoi; obtain rfl := Option.some.inj hoi; clear hoi); refine ⟨rfl, ?_⟩; apply Exists.intro; refine ⟨?_, fun _ _ _ h => h, ?_⟩; (intro w hSw; (try dsimp only at hSw); go_simp; (try with_reducible rfl)); (try simp only [Act.put, List.setIfInBounds_toArray, List.set_cons_zero, List.set_cons_succ]); refine hTake 2 (by kernel_rfl) (by kernel_rfl) (by kernel_rfl) (by decide) (by assumption) ?_; (intro oi hoi; simp only [List.getElem?_toArray, List.getElem?_cons_succ, List.getElem?_cons_zero] at hoi; obtain rfl := Option.some.inj hoi; clear hoi); refine ⟨rfl, ?_⟩; apply Exists.intro; refine ⟨?_, fun _ _ _ h => h, ?_⟩; (intro w hSw; (try dsimp only at hSw); go_simp; (try with_reducible rfl)); (try simp only [Act.put, List.setIfInBounds_toArray, List.set_cons_zero, List.set_cons_succ]); refine hTake 3 (by kernel_rfl) (by kernel_rfl) (by kernel_rfl) (by decide) (by assumption) ?_; (intro oi hoi; simp only [List.getElem?_toArray, List.getElem?_cons_succ, List.getElem?_cons_zero] at hoi; obtain rfl := Option.some.inj hoi; clear hoi); refine ⟨rfl, ?_⟩; apply Exists.intro; refine ⟨?_, fun _ _ _ h => h, ?_⟩; (intro w hSw; (try dsimp only at hSw); go_simp; (try with_reducible rfl)); (try simp only [Act.put, List.setIfInBounds_toArray, List.set_cons_zero, List.set_cons_succ]); refine hTake 4 (by kernel_rfl) (by kernel_rfl) (by kernel_rfl) (by decide) (by assumption) ?_; (intro oi hoi; simp only [List.getElem?_toArray, List.getElem?_cons_succ, List.getElem?_cons_zero] at hoi; obtain rfl := Option.some.inj hoi; clear hoi); refine ⟨rfl, ?_⟩; apply Exists.intro; refine ⟨?_, fun _ _ _ h => h, ?_⟩; (intro w hSw; (try dsimp only at hSw); go_simp; (try with_reducible rfl)); (try simp only [Act.put, List.setIfInBounds_toArray, List.set_cons_zero, List.set_cons_succ]); refine hTake 5 (by kernel_rfl) (by kernel_rfl) (by kernel_rfl) (by decide) (by assumption) ?_; (intro oi hoi; simp only [List.getElem?_toArray, List.getElem?_cons_succ, List.getElem?_cons_zero] at hoi; obtain rfl := Option.some.inj hoi; clear hoi); refine ⟨rfl, ?_⟩; apply Exists.intro; refine ⟨?_, fun _ _ _ h => h, ?_⟩; (intro w hSw; (try dsimp only at hSw); go_simp; (try with_reducible rfl)); (try simp only [Act.put, List.setIfInBounds_toArray, List.set_cons_zero, List.set_cons_succ]); refine hTake 6 (by kernel_rfl) (by kernel_rfl) (by kernel_rfl) (by decide) (by assumption) ?_; (intro oi hoi; simp only [List.getElem?_toArray, List.getElem?_cons_succ, List.getElem?_cons_zero] at hoi; obtain rfl := Option.some.inj hoi; clear hoi); refine ⟨rfl, ?_⟩; apply Exists.intro; refine ⟨?_, fun _ _ _ h => h, ?_⟩; (intro w hSw; (try dsimp only at hSw); go_simp; (try with_reducible rfl)); (try simp only [Act.put, List.setIfInBounds_toArray, List.set_cons_zero, List.set_cons_succ]); refine hTake 7 (by kernel_rfl) (by kernel_rfl) (by kernel_rfl) (by decide) (by assumption) ?_; (intro oi hoi; simp only [List.getElem?_toArray, List.getElem?_cons_succ, List.getElem?_cons_zero] at hoi; obtain rfl := Option.some.inj hoi; clear hoi); refine ⟨rfl, ?_⟩; apply Exists.intro; refine ⟨?_, fun _ _ _ h => h, ?_⟩; (intro w hSw; (try dsimp only at hSw); go_simp; (try with_reducible rfl)); (try simp only [Act.put, List.setIfInBounds_toArray, List.set_cons_zero, List.set_cons_succ])
          refine hOnly 8 (by kernel_rfl) (by decide) ?_; (intro oi hoi; simp only [List.getElem?_toArray, List.getElem?_cons_succ, List.getElem?_cons_zero] at hoi; obtain rfl := Option.some.inj hoi; clear hoi); intro K hK; go_simp
          go_at_call 75
          refine (before_any x y _).mono ?_
          rw [hlt]
          rintro e w7 ⟨rfl, hb7⟩
          have hEhb7 := Env.step hb7 (by assumption); (try (have hqhb7 := (by with_reducible first | exact Loc.below hb7 (Loc.new (Loc.nil _) _ _) | exact Loc.below hb7 (Loc.drew (Loc.new (Loc.nil _) _ _)) | exact Loc.below hb7 (by assumption : Loc _ [_])); (repeat rw [World.size_drew] at hqhb7); (repeat rw [World.size_alloc] at hqhb7); have hrhb7 := hqhb7; (repeat unfold Loc at hrhb7)))
          (refine hK.out _ _ (by (first | assumption | exact Env.step (by assumption) (by assumption) | exact Env.old (by assumption) _ | exact Env.drew hE | exact hE | exact Env.drew (by assumption) | exact Env.drew (Env.old (by assumption) _) | ((repeat first | refine Env.far0 ?_ (by assumption) _ | refine Env.far1 ?_ (by assumption) _ | refine Env.farA ?_ (by assumption) _); assumption))) (fun hHeld => ?_); clear hK K; (try simp only [Act.put, List.setIfInBounds_toArray, List.set_cons_zero, List.set_cons_succ]))
          refine hTake 9 (by kernel_rfl) (by kernel_rfl) (by kernel_rfl) (by decide) (by assumption) ?_; (intro oi hoi; simp only [List.getElem?_toArray, List.getElem?_cons_succ, List.getElem?_cons_zero] at hoi; obtain rfl := Option.some.inj hoi; clear hoi); refine ⟨rfl, ?_⟩; apply Exists.intro; refine ⟨?_, fun _ _ _ h => h, ?_⟩; (intro w hSw; (try dsimp only at hSw); go_simp; (try with_reducible rfl)); (try simp only [Act.put, List.setIfInBounds_toArray, List.set_cons_zero, List.set_cons_succ])
          refine wpAnyH_done (by kernel_rfl) ?_ _
          have hown6 := hown.below hHeld.1
          have hg6 := grown_below HG.out hHeld.1
          have hl6 := HLC.out.below hHeld.1
          have HG6 := Lib.hid hg6
          have HL6 := Lib.hid hl6
          obtain ⟨p1, p2, p3, hg7⟩ := own_tm hown6 HX.out
          obtain ⟨s1, s2, s3, -⟩ := own_tm hown6 HY.out
          have frz6 := own_frz hown6 HLL.out.symm
          have hsw : sw t0 l' i' c = (l'.set i' x).set c y := by unfold sw; rw [GX.out, GY.out]
          have HSW := Lib.hid hsw
          have hne : i' ≠ c := by omega
          clear hsw hR hE hHeld hg6 hl6
          go_wp2
          go_region
          all_goals
            go_wp2
            go_roundw
            case rel =>
              have h1 := Own.set tenc_len hown6 HLL.out.symm i' (by rw [HLL.out]; omega) x
              have h2 := Own.set tenc_len h1.1 (by simp [HLL.out]) c (by simp; rw [HLL.out]; omega) y
              have hneq : ∀ q ∈ [(w.heap.size + 1, [Value.int .i64 x0.s, .int .i64 x0.e, .int .i64 x0.k]), (w.heap.size, [Value.int .i64 0, .int .i64 0, .int .i64 0])], q.1 ≠ g := by
                intro q hq; simp at hq; rcases hq with rfl | rfl <;> (simp; omega)
              exact ⟨f2, c, sw t0 l' i' c, by go_num, by rw [sw_length, HLL.out], e2, by omega, by rw [← E1.out, HDN.out], by rw [HSW.out]; exact own_drew h2.1, (Loc.putW hneq (tenc y) 0 _ (Loc.putW hneq (tenc x) 0 _ HL6.out)).drew, grown_drew (grown_trans (grown_trans HG6.out h1.2) h2.2)⟩
            case measure => simp [intOf]; omega
        · have hlt' : tlt x y = false := by simpa using hlt
          have hz : dn tlt t0 f l' i' = l' := dn_stop _ _ (by rw [← HCE.out, GX.out, GY.out]; intro h; exact hlt h.2)
          have HZ := Lib.hid hz
          clear hz hlt
          refine wp_region_held_drew (S := Env wr []) (by kernel_rfl) (by (first | assumption | exact Env.step (by assumption) (by assumption) | exact Env.old (by assumption) _ | exact Env.drew hE | exact hE | exact Env.drew (by assumption) | exact Env.drew (Env.old (by assumption) _) | ((repeat first | refine Env.far0 ?_ (by assumption) _ | refine Env.far1 ?_ (by assumption) _ | refine Env.farA ?_ (by assumption) _); assumption))) (fun hHeld => ?_)
          refine hTake 0 (by kernel_rfl) (by kernel_rfl) (by kernel_rfl) (by decide) (by assumption) ?_; (intro oi hoi; simp only [List.getElem?_toArray, List.getElem?_cons_zero] at hoi; obtain rfl := Option.some.inj hoi; clear hoi); refine ⟨rfl, ?_⟩; apply Exists.intro; refine ⟨?_, fun _ _ _ h => h, ?_⟩; (intro w hSw; (try dsimp only at hSw); go_simp; (try with_reducible rfl)); (try simp only [Act.put, List.setIfInBounds_toArray, List.set_cons_zero, List.set_cons_succ]); refine hTake 1 (by kernel_rfl) (by kernel_rfl) (by kernel_rfl) (by decide) (by assumption) ?_; (intro oi hoi; simp only [List.getElem?_toArray, List.getElem?_cons_succ, List.getElem?_cons_zero] at hoi; obtain rfl := Option.some.inj hoi; clear hoi); refine ⟨rfl, ?_⟩; apply Exists.intro; refine ⟨?_, fun _ _ _ h => h, ?_⟩; (intro w hSw; (try dsimp only at hSw); go_simp; (try with_reducible rfl)); (try simp only [Act.put, List.setIfInBounds_toArray, List.set_cons_zero, List.set_cons_succ]); refine hTake 2 (by kernel_rfl) (by kernel_rfl) (by kernel_rfl) (by decide) (by assumption) ?_; (intro oi hoi; simp only [List.getElem?_toArray, List.getElem?_cons_succ, List.getElem?_cons_zero] at hoi; obtain rfl := Option.some.inj hoi; clear hoi); refine ⟨rfl, ?_⟩; apply Exists.intro; refine ⟨?_, fun _ _ _ h => h, ?_⟩; (intro w hSw; (try dsimp only at hSw); go_simp; (try with_reducible rfl)); (try simp only [Act.put, List.setIfInBounds_toArray, List.set_cons_zero, List.set_cons_succ]); refine hTake 3 (by kernel_rfl) (by kernel_rfl) (by kernel_rfl) (by decide) (by assumption) ?_; (intro oi hoi; simp only [List.getElem?_toArray, List.getElem?_cons_succ, List.getElem?_cons_zero] at hoi; obtain rfl := Option.some.inj hoi; clear hoi); refine ⟨rfl, ?_⟩; apply Exists.intro; refine ⟨?_, fun _ _ _ h => h, ?_⟩; (intro w hSw; (try dsimp only at hSw); go_simp; (try with_reducible rfl)); (try simp only [Act.put, List.setIfInBounds_toArray, List.set_cons_zero, List.set_cons_succ]); refine hTake 4 (by kernel_rfl) (by kernel_rfl) (by kernel_rfl) (by decide) (by assumption) ?_; (intro oi hoi; simp only [List.getElem?_toArray, List.getElem?_cons_succ, List.getElem?_cons_zero] at hoi; obtain rfl := Option.some.inj hoi; clear hoi); refine ⟨rfl, ?_⟩; apply Exists.intro; refine ⟨?_, fun _ _ _ h => h, ?_⟩; (intro w hSw; (try dsimp only at hSw); go_simp; (try with_reducible rfl)); (try simp only [Act.put, List.setIfInBounds_toArray, List.set_cons_zero, List.set_cons_succ]); refine hTake 5 (by kernel_rfl) (by kernel_rfl) (by kernel_rfl) (by decide) (by assumption) ?_; (intro oi hoi; simp only [List.getElem?_toArray, List.getElem?_cons_succ, List.getElem?_cons_zero] at hoi; obtain rfl := Option.some.inj hoi; clear hoi); refine ⟨rfl, ?_⟩; apply Exists.intro; refine ⟨?_, fun _ _ _ h => h, ?_⟩; (intro w hSw; (try dsimp only at hSw); go_simp; (try with_reducible rfl)); (try simp only [Act.put, List.setIfInBounds_toArray, List.set_cons_zero, List.set_cons_succ]); refine hTake 6 (by kernel_rfl) (by kernel_rfl) (by kernel_rfl) (by decide) (by assumption) ?_; (intro oi hoi; simp only [List.getElem?_toArray, List.getElem?_cons_succ, List.getElem?_cons_zero] at hoi; obtain rfl := Option.some.inj hoi; clear hoi); refine ⟨rfl, ?_⟩; apply Exists.intro; refine ⟨?_, fun _ _ _ h => h, ?_⟩; (intro w hSw; (try dsimp only at hSw); go_simp; (try with_reducible rfl)); (try simp only [Act.put, List.setIfInBounds_toArray, List.set_cons_zero, List.set_cons_succ]); refine hTake 7 (by kernel_rfl) (by kernel_rfl) (by kernel_rfl) (by decide) (by assumption) ?_; (intro oi hoi; simp only [List.getElem?_toArray, List.getElem?_cons_succ, List.getElem?_cons_zero] at hoi; obtain rfl := Option.some.inj hoi; clear hoi); refine ⟨rfl, ?_⟩; apply Exists.intro; refine ⟨?_, fun _ _ _ h => h, ?_⟩; (intro w hSw; (try dsimp only at hSw); go_simp; (try with_reducible rfl)); (try simp only [Act.put, List.setIfInBounds_toArray, List.set_cons_zero, List.set_cons_succ])
          refine hOnly 8 (by kernel_rfl) (by decide) ?_; (intro oi hoi; simp only [List.getElem?_toArray, List.getElem?_cons_succ, List.getElem?_cons_zero] at hoi; obtain rfl := Option.some.inj hoi; clear hoi); intro K hK; go_simp
          go_at_call 75
          refine (before_any x y _).mono ?_
          rw [hlt']
          rintro e w7 ⟨rfl, hb7⟩
          have hEhb7 := Env.step hb7 (by assumption); (try (have hqhb7 := (by with_reducible first | exact Loc.below hb7 (Loc.new (Loc.nil _) _ _) | exact Loc.below hb7 (Loc.drew (Loc.new (Loc.nil _) _ _)) | exact Loc.below hb7 (by assumption : Loc _ [_])); (repeat rw [World.size_drew] at hqhb7); (repeat rw [World.size_alloc] at hqhb7); have hrhb7 := hqhb7; (repeat unfold Loc at hrhb7)))
          (refine hK.out _ _ (by (first | assumption | exact Env.step (by assumption) (by assumption) | exact Env.old (by assumption) _ | exact Env.drew hE | exact hE | exact Env.drew (by assumption) | exact Env.drew (Env.old (by assumption) _) | ((repeat first | refine Env.far0 ?_ (by assumption) _ | refine Env.far1 ?_ (by assumption) _ | refine Env.farA ?_ (by assumption) _); assumption))) (fun hHeld => ?_); clear hK K; (try simp only [Act.put, List.setIfInBounds_toArray, List.set_cons_zero, List.set_cons_succ]))
          refine hTake 9 (by kernel_rfl) (by kernel_rfl) (by kernel_rfl) (by decide) (by assumption) ?_; (intro oi hoi; simp only [List.getElem?_toArray, List.getElem?_cons_succ, List.getElem?_cons_zero] at hoi; obtain rfl := Option.some.inj hoi; clear hoi); refine ⟨rfl, ?_⟩; apply Exists.intro; refine ⟨?_, fun _ _ _ h => h, ?_⟩; (intro w hSw; (try dsimp only at hSw); go_simp; (try with_reducible rfl)); (try simp only [Act.put, List.setIfInBounds_toArray, List.set_cons_zero, List.set_cons_succ])
          refine wpAnyH_done (by kernel_rfl) ?_ _
          have hown6 := hown.below hHeld.1
          have hg6 := grown_below HG.out hHeld.1
          have hlc := HLC.out.below hHeld.1
          (repeat unfold Loc at hlc)
          clear hR hE hHeld
          go_wp2
          refine bodyPost_ret (v := _) (by rw [results_cell_tmp Try.results73]; go_simp; rfl) rfl ⟨?_, ?_⟩
          · rfl
          · exact pop_end hown6 hg6 (by omega) (by omega) HLL.out HDN.out HZ.out
    · have hz : dn tlt t0 f l' i' = l' := dn_stop _ _ (by rw [hll]; omega)
      have HZ := Lib.hid hz
      have b1 : IntKind.i64.wrap (2 * (i' : Int)) = 2 * (i' : Int) := IntWalk.i64_in _ (by omega)
      have b2 : IntKind.i64.wrap (2 * (i' : Int) + 1) = 2 * (i' : Int) + 1 := IntWalk.i64_in _ (by omega)
      have b3 : decide (2 * (i' : Int) + 1 < (n : Int)) = false := by simp; omega
      have hlc := hloc
      (repeat unfold Loc at hlc)
      have hown6 := hown
      clear hz hll hdn hg hloc hown
      go_wp2
      refine bodyPost_ret (v := _) (by rw [results_cell_tmp Try.results73]; go_simp; rfl) rfl ⟨?_, ?_⟩
      · rfl
      · exact pop_end hown6 HG.out (by omega) (by omega) HLL.out HDN.out HZ.out
end Go.Proofs.Ytffehibdeogjeaa

/- The contract of timers.Pop (chapter 18). Condition: a list of at most 2^40 timers. -/
namespace Go.Proofs.Ytffehibdeogjeaa
open Go.RowKit

theorem results_cell_tmp2 {fn : Func} {p u v : Tmp} {ty : TypeId} (h : fn.results = #[.cell p ty, .tmp u, .tmp v]) (tmps : Array Value) (P : Program) (w : World) :
    (results fn tmps).run P w =
      ((asAddr (tmps.getD p undef)).run P w).andThen fun a w₁ => ((loadVar ty a).run P w₁).andThen fun x w₂ => .ok (.tuple #[x, tmps.getD u undef, tmps.getD v undef]) w₂ := by
  simp only [results, h]
  simp [Sem.run_bind, Result.andThen]

/-- What Pop gives. -/
noncomputable def tpopl (l : List Tm) : Tm × List Tm × Int := if tck l ≠ 0 then (t0, [], tck l) else if l.length = 0 then (t0, [], 6) else (l.getD 0 t0, popL tlt t0 l, 0)

set_option maxHeartbeats 8000000 in
set_option maxRecDepth 100000 in
theorem tpop_any (A : Option Addr) (c : Nat) (l : List Tm) (w : World) (hn : l.length ≤ 1099511627776) (hr : Rd tenc 3 w w.heap.size A l) :
    Calls Try.prog 32 #[.slice A l.length c] w fun e w' =>
      ∃ v, e = .returned (.tuple #[.agg #[.int .i64 (tpopl l).1.s, .int .i64 (tpopl l).1.e, .int .i64 (tpopl l).1.k], v, .int .i64 (tpopl l).2.2]) ∧ Own tenc 3 w' w.heap.size 34 v (tpopl l).2.1 ∧ Below w.heap.size w w' := by
  have hck := fun W (h : Rd tenc 3 W W.heap.size A l) => tcheck_any A c l W hn h
  have hro := fun W (h : Rd tenc 3 W W.heap.size A l) => room_any A c l W hn h
  obtain ⟨n, hn'⟩ : ∃ n, n = l.length := ⟨_, rfl⟩
  rw [← hn'] at hn hck hro ⊢
  have HN := Lib.hid hn'; have HCK := Lib.hid hck; have HRO := Lib.hid hro
  clear hn' hck hro
  have hL : Loc w [] := trivial
  obtain ⟨q, hq⟩ : ∃ q, q = tck l := ⟨_, rfl⟩
  have HQ := Lib.hid hq
  by_cases h0 : q = 0
  · have b0 : (q != 0) = false := by simp [h0]
    by_cases hz : n = 0
    · have b1 : ((n : Int) == 0) = true := by simp [hz]
      have hs : tpopl l = (t0, [], 6) := by unfold tpopl; rw [if_neg (by rw [← hq, h0]; simp), if_pos (by rw [← HN.out]; exact hz)]
      have HS := Lib.hid hs
      clear hs h0 hq hz
      go_enter Try.func32, Try.ntmps32
      go_wp2_with (first
        | (go_at_call 24; refine (HCK.out _ (rd_grown hr (by repeat (first | with_reducible exact Below.refl _ _ | with_reducible assumption | (with_reducible exact Env.below (by assumption)) | (with_reducible refine below_new ?_ _) | (with_reducible refine below_drew ?_) | (with_reducible refine below_drewN ?_ _) | (with_reducible refine below_put ?_ ?_ _; rotate_left 1; (dsimp only; omega)) | (with_reducible refine below_then ?_ (by assumption)))))).mono ?_; rw [← HQ.out]; rintro e w1 ⟨rfl, hb1⟩; replace hL := (by with_reducible first | exact hL.below hb1 | exact (hL.new _ _).below hb1 | exact ((hL.new _ _).new _ _).below hb1 | exact (((hL.new _ _).new _ _).new _ _).below hb1 | exact ((((hL.new _ _).new _ _).new _ _).new _ _).below hb1); (repeat rw [World.size_alloc] at hL); have hF := hL; (repeat unfold Loc at hF)))
      refine bodyPost_ret (v := _) (by rw [results_cell_tmp2 Try.results32]; go_simp; rfl) rfl ?_
      exact ⟨.slice none 0 0, by simp [HS.out, t0], by rw [HS.out]; exact Own.nil _ _ _, (by repeat (first | with_reducible exact Below.refl _ _ | with_reducible assumption | (with_reducible exact Env.below (by assumption)) | (with_reducible refine below_new ?_ _) | (with_reducible refine below_drew ?_) | (with_reducible refine below_drewN ?_ _) | (with_reducible refine below_put ?_ ?_ _; rotate_left 1; (dsimp only; omega)) | (with_reducible refine below_then ?_ (by assumption))))⟩
    · obtain ⟨x0, hx0⟩ : ∃ x, l[0]? = some x := ⟨_, List.getElem?_eq_getElem (by rw [← HN.out]; omega)⟩
      have b1 : ((n : Int) == 0) = false := by simp [hz]
      obtain ⟨m, hm⟩ : ∃ m, n = m + 1 := ⟨n - 1, by omega⟩
      have hs : tpopl l = (x0, popL tlt t0 l, 0) := by unfold tpopl; rw [if_neg (by rw [← hq, h0]; simp), if_neg (by rw [← HN.out]; exact hz), getD_some hx0]
      have HS := Lib.hid hs; have HX := Lib.hid hx0; have HM := Lib.hid hm
      clear hs h0 hq hz hx0 hm
      go_enter Try.func32, Try.ntmps32
      go_wp2_with (first
        | (go_at_call 24; refine (HCK.out _ (rd_grown hr (by repeat (first | with_reducible exact Below.refl _ _ | with_reducible assumption | (with_reducible exact Env.below (by assumption)) | (with_reducible refine below_new ?_ _) | (with_reducible refine below_drew ?_) | (with_reducible refine below_drewN ?_ _) | (with_reducible refine below_put ?_ ?_ _; rotate_left 1; (dsimp only; omega)) | (with_reducible refine below_then ?_ (by assumption)))))).mono ?_; rw [← HQ.out]; rintro e w1 ⟨rfl, hb1⟩; replace hL := (by with_reducible first | exact hL.below hb1 | exact (hL.new _ _).below hb1 | exact ((hL.new _ _).new _ _).below hb1 | exact (((hL.new _ _).new _ _).new _ _).below hb1 | exact ((((hL.new _ _).new _ _).new _ _).new _ _).below hb1); (repeat rw [World.size_alloc] at hL); have hF := hL; (repeat unfold Loc at hF))
        | (go_at_call 72; refine (HRO.out _ (rd_grown hr (by repeat (first | with_reducible exact Below.refl _ _ | with_reducible assumption | (with_reducible exact Env.below (by assumption)) | (with_reducible refine below_new ?_ _) | (with_reducible refine below_drew ?_) | (with_reducible refine below_drewN ?_ _) | (with_reducible refine below_put ?_ ?_ _; rotate_left 1; (dsimp only; omega)) | (with_reducible refine below_then ?_ (by assumption)))))).mono ?_; rintro e w2 ⟨g, rfl, hown2, hb2⟩; have hbg := World.ownsRow.lt hown2 g rfl)
        | (go_at_call 73; refine (pop_any g (n + 1) n m _ l x0 _ HN.out.symm HM.out hn HX.out hown2).mono ?_; rintro e w3 ⟨rfl, hown3, hg3⟩; have hb3 := hb2.grown hg3 hb2.size (fun k hk => (by cases hk; exact hbg.1)); replace hL := (by with_reducible first | exact hL.below hb3 | exact (hL.new _ _).below hb3 | exact ((hL.new _ _).new _ _).below hb3 | exact (((hL.new _ _).new _ _).new _ _).below hb3 | exact ((((hL.new _ _).new _ _).new _ _).new _ _).below hb3); (repeat rw [World.size_alloc] at hL); have hF := hL; (repeat unfold Loc at hF)))
      refine bodyPost_ret (v := _) (by rw [results_cell_tmp2 Try.results32]; go_simp; rfl) rfl ?_
      have hs1 := hb1.size
      rw [World.size_alloc] at hs1
      exact ⟨.slice (some ⟨g, 0, none⟩) m (n + 1), by simp [HS.out], by rw [HS.out]; exact ((hown3.mono (base' := w.heap.size) (by omega)).grown (putW_grown w.heap.size 0 [_, _, _] 0 w3) (.inr (by simp [Value.ownBlock]; omega))).alloc _, (by repeat (first | with_reducible exact Below.refl _ _ | with_reducible assumption | (with_reducible exact Env.below (by assumption)) | (with_reducible refine below_new ?_ _) | (with_reducible refine below_drew ?_) | (with_reducible refine below_drewN ?_ _) | (with_reducible refine below_put ?_ ?_ _; rotate_left 1; (dsimp only; omega)) | (with_reducible refine below_then ?_ (by assumption))))⟩
  · have b0 : (q != 0) = true := by simp [h0]
    have hs : tpopl l = (t0, [], q) := by unfold tpopl; rw [if_pos (by rw [← hq]; exact h0), ← hq]
    have HS := Lib.hid hs
    clear hs h0 hq
    go_enter Try.func32, Try.ntmps32
    go_wp2_with (first
      | (go_at_call 24; refine (HCK.out _ (rd_grown hr (by repeat (first | with_reducible exact Below.refl _ _ | with_reducible assumption | (with_reducible exact Env.below (by assumption)) | (with_reducible refine below_new ?_ _) | (with_reducible refine below_drew ?_) | (with_reducible refine below_drewN ?_ _) | (with_reducible refine below_put ?_ ?_ _; rotate_left 1; (dsimp only; omega)) | (with_reducible refine below_then ?_ (by assumption)))))).mono ?_; rw [← HQ.out]; rintro e w1 ⟨rfl, hb1⟩; replace hL := (by with_reducible first | exact hL.below hb1 | exact (hL.new _ _).below hb1 | exact ((hL.new _ _).new _ _).below hb1 | exact (((hL.new _ _).new _ _).new _ _).below hb1 | exact ((((hL.new _ _).new _ _).new _ _).new _ _).below hb1); (repeat rw [World.size_alloc] at hL); have hF := hL; (repeat unfold Loc at hF)))
    refine bodyPost_ret (v := _) (by rw [results_cell_tmp2 Try.results32]; go_simp; rfl) rfl ?_
    exact ⟨.slice none 0 0, by simp [HS.out, t0], by rw [HS.out]; exact Own.nil _ _ _, (by repeat (first | with_reducible exact Below.refl _ _ | with_reducible assumption | (with_reducible exact Env.below (by assumption)) | (with_reducible refine below_new ?_ _) | (with_reducible refine below_drew ?_) | (with_reducible refine below_drewN ?_ _) | (with_reducible refine below_put ?_ ?_ _; rotate_left 1; (dsimp only; omega)) | (with_reducible refine below_then ?_ (by assumption))))⟩
end Go.Proofs.Ytffehibdeogjeaa

/- The contract of timers.Until (chapter 18). Condition: a list of at most 2^40 timers. -/
namespace Go.Proofs.Ytffehibdeogjeaa
open Go.RowKit

/-- What Until gives. -/
noncomputable def tuntil (l : List Tm) (mark : Int) : List Tm × List Tm × Int :=
  if tck l ≠ 0 then ([], [], tck l) else ((untilL tlt t0 (fun t => decide (t.e ≤ mark)) l.length l).1, (untilL tlt t0 (fun t => decide (t.e ≤ mark)) l.length l).2, 0)
theorem tm_one (t : Tm) : ∀ u ∈ tenc t, u.oneCell' = true := by
  intro u hu; simp [tenc] at hu; rcases hu with rfl | rfl | rfl <;> rfl
set_option maxHeartbeats 8000000 in
set_option maxRecDepth 100000 in
theorem tuntil_any (A : Option Addr) (c : Nat) (l : List Tm) (mark : Int) (w : World) (hn : l.length ≤ 1099511627776) (hr : Rd tenc 3 w w.heap.size A l) :
    Calls Try.prog 23 #[.slice A l.length c, .int .i64 mark] w fun e w' =>
      ∃ v u, e = .returned (.tuple #[v, u, .int .i64 (tuntil l mark).2.2]) ∧ Own tenc 3 w' w.heap.size 34 v (tuntil l mark).1 ∧ Own tenc 3 w' w.heap.size 34 u (tuntil l mark).2.1 ∧ Below w.heap.size w w' := by
  have hck := fun W (h : Rd tenc 3 W W.heap.size A l) => tcheck_any A c l W hn h
  have hro := fun W (h : Rd tenc 3 W W.heap.size A l) => room_any A c l W hn h
  obtain ⟨n, hn'⟩ : ∃ n, n = l.length := ⟨_, rfl⟩
  rw [← hn'] at hn hck hro ⊢
  have HN := Lib.hid hn'; have HCK := Lib.hid hck; have HRO := Lib.hid hro
  clear hn' hck hro
  have hL : Loc w [] := trivial
  obtain ⟨q, hq⟩ : ∃ q, q = tck l := ⟨_, rfl⟩
  have HQ := Lib.hid hq
  by_cases h0 : q = 0
  · have b0 : (q != 0) = false := by simp [h0]
    obtain ⟨U, hU⟩ : ∃ U, U = untilL tlt t0 (fun t => decide (t.e ≤ mark)) l.length l := ⟨_, rfl⟩
    have hs : tuntil l mark = (U.1, U.2, 0) := by unfold tuntil; rw [if_neg (by rw [← hq, h0]; simp), hU]
    have HS := Lib.hid hs; have HU := Lib.hid hU
    obtain ⟨i0, hi0, hz0, hz1, hz2⟩ := info_parts tm_info
    clear hs h0 hq hU
    go_enter Try.func23, Try.ntmps23
    go_wp2_with (first
      | (go_at_call 24; refine (HCK.out _ (rd_grown hr (by repeat (first | with_reducible exact Below.refl _ _ | with_reducible assumption | (with_reducible exact Env.below (by assumption)) | (with_reducible refine below_new ?_ _) | (with_reducible refine below_drew ?_) | (with_reducible refine below_drewN ?_ _) | (with_reducible refine below_put ?_ ?_ _; rotate_left 1; (dsimp only; omega)) | (with_reducible refine below_then ?_ (by assumption)))))).mono ?_; rw [← HQ.out]; rintro e w1 ⟨rfl, hb1⟩; replace hL := (by with_reducible first | exact hL.below hb1 | exact (hL.new _ _).below hb1 | exact ((hL.new _ _).new _ _).below hb1 | exact (((hL.new _ _).new _ _).new _ _).below hb1 | exact ((((hL.new _ _).new _ _).new _ _).new _ _).below hb1); (repeat rw [World.size_alloc] at hL); have hF := hL; (repeat unfold Loc at hF))
      | (go_at_call 72; refine (HRO.out _ (rd_grown hr (by repeat (first | with_reducible exact Below.refl _ _ | with_reducible assumption | (with_reducible exact Env.below (by assumption)) | (with_reducible refine below_new ?_ _) | (with_reducible refine below_drew ?_) | (with_reducible refine below_drewN ?_ _) | (with_reducible refine below_put ?_ ?_ _; rotate_left 1; (dsimp only; omega)) | (with_reducible refine below_then ?_ (by assumption)))))).mono ?_; rintro e w2 ⟨g, rfl, hown2, hb2⟩; have hbg := World.ownsRow.lt hown2 g rfl))
    have hbw : Below w.heap.size w w1 := (by repeat (first | with_reducible exact Below.refl _ _ | with_reducible assumption | (with_reducible exact Env.below (by assumption)) | (with_reducible refine below_new ?_ _) | (with_reducible refine below_drew ?_) | (with_reducible refine below_drewN ?_ _) | (with_reducible refine below_put ?_ ?_ _; rotate_left 1; (dsimp only; omega)) | (with_reducible refine below_then ?_ (by assumption))))
    clear hF hL hb1 hr
    go_loopw [8, 9] (fun r o wr => ∃ (f n' : Nat) (os rs : List Tm), r = .slice (some ⟨g, 0, none⟩) n' (n + 1) ∧ rs.length = n' ∧ n' ≤ f ∧ os.length + n' = n ∧
      (os ++ (untilL tlt t0 (fun t => decide (t.e ≤ mark)) f rs).1, (untilL tlt t0 (fun t => decide (t.e ≤ mark)) f rs).2) = U ∧ Own tenc 3 wr w1.heap.size 34 (.slice (some ⟨g, 0, none⟩) n' (n + 1)) rs ∧
      Own tenc 3 wr w2.heap.size 34 o os ∧ Below w1.heap.size w1 wr ∧ w2.heap.size ≤ wr.heap.size) (fun r _ _ => lenV r)
    case atStart => exact ⟨n, n, [], l, rfl, HN.out.symm, Nat.le_refl _, by simp, by rw [HU.out, ← HN.out]; rfl, hown2, Own.nil _ _ _, hb2, Nat.le_refl _⟩
    case round =>
      obtain ⟨f, n', os, rs, rfl, hrl, hnf, hol, hun, hown, howo, hb, hsz⟩ := hrel
      have HRL := Lib.hid hrl
      have HUN := Lib.hid hun
      by_cases hz : n' = 0
      · have b1 : decide ((0 : Int) < (n' : Int)) = false := by simp [hz]
        have b2 : decide (0 < n') = false := by simp [hz]
        have hrs : rs = [] := List.eq_nil_of_length_eq_zero (by rw [hrl, hz])
        have hu : (os, rs) = U := by rw [← hun, hrs, untilL_nil]; simp
        have HUU := Lib.hid hu
        clear hz hrs hu hun hrl
        go_wp2
        go_ret3
        rw [HS.out]
        exact ⟨_, _, rfl, by rw [← HUU.out]; exact howo.mono (Nat.le_trans hbw.size hb2.size), by rw [← HUU.out]; exact hown.mono hbw.size, hbw.trans (hb.mono hbw.size)⟩
      · obtain ⟨x, hx⟩ : ∃ x, rs[0]? = some x := ⟨_, List.getElem?_eq_getElem (by omega)⟩
        obtain ⟨m, hm⟩ : ∃ m, n' = m + 1 := ⟨n' - 1, by omega⟩
        obtain ⟨c1, c2, c3, hglt⟩ := own_tm hown hx
        rw [Nat.zero_mul] at c1
        rw [Nat.zero_mul, Nat.zero_add] at c2 c3
        have b1 : decide ((0 : Int) < (n' : Int)) = true := by simp; omega
        have b2 : decide (0 < n') = true := by simp; omega
        have j1 : (0 : Int) < (n' : Int) := by omega
        have HX := Lib.hid hx; have HM := Lib.hid hm
        by_cases hle : x.e ≤ mark
        · obtain ⟨f', e1, e2⟩ := untilL_step (lt := tlt) (d := t0) (p := fun t => decide (t.e ≤ mark)) (n := f) hx (by omega) (by simp [hle])
          have b3 : decide (x.e ≤ mark) = true := by simp [hle]
          rw [popL_length, hrl, hm] at e2
          have E1 := Lib.hid e1
          have hmn : m < n' := by omega
          have hon : os.length + 1 + m = n := by omega
          clear e1 hx hm hrl hun hz
          go_wp2_with (first
            | (go_at_call 73; refine (pop_any g (n + 1) n' m w1.heap.size rs x _ HRL.out HM.out (by omega) HX.out (hown.alloc _)).mono ?_; rintro e w3 ⟨rfl, hown3, hg3⟩; have hl3 := Loc.grown hg3 (by intro q hq; simp at hq; subst hq; simp; omega) (Loc.new (Loc.nil wr) [.int .i64 0, .int .i64 0, .int .i64 0] 34); have hlF := hl3; (repeat unfold Loc at hlF); have howx := ((((howo.alloc (.cells #[.int .i64 0, .int .i64 0, .int .i64 0] 34)).grown hg3 (own_apart howo hbg.2)).grown (putW_grown wr.heap.size 0 [.int .i64 x.s, .int .i64 x.e, .int .i64 x.k] 0 w3) (own_apart' howo (Nat.le_refl _))).alloc (.cells #[.int .i64 x.s, .int .i64 x.e, .int .i64 x.k] 34)))
            | (at_builtin; refine wpList_append_elem rfl _ _ 22 rfl w2.heap.size 34 i0 (.agg #[.int .i64 0, .int .i64 0, .int .i64 0]) 3 24 Try.underlying22 hi0 hz0 hz1 hz2 rfl (by decide) tenc tenc_len _ _ x rfl howx ⟨w3.heap.size, 0, none⟩ 1 rfl ?c1 (tm_one x) ?c3 ?c4 ?c5 ?_))
          case c1 =>
            intro j u hj
            exact tm_new _ x 34 w3.heap.size (by simp [World.setCell]) j u (by simpa using hj)
          case c3 => unfold maxLen; omega
          case c4 => omega
          case c5 => have := hg3.size; simp at this; simp; omega
          · intro v' w5 hown' hgrow hbel
            have hbz := hb.size
            have hs3 := hg3.size
            rw [World.size_alloc] at hs3
            have hb5 : Below w1.heap.size w1 w5 := ((((((hb.alloc hbz _).grown hg3 (by rw [World.size_alloc]; omega) (fun k hk => by cases hk; exact hbg.1)).setCell (p := ⟨wr.heap.size, 0, none⟩) hbz _).setCell (p := ⟨wr.heap.size, 1, none⟩) hbz _).setCell (p := ⟨wr.heap.size, 2, none⟩) hbz _).alloc (by simp [World.setCell]; omega) _).trans (hbel.mono hb2.size)
            have hown5 := (((hown3.grown (putW_grown wr.heap.size 0 [.int .i64 x.s, .int .i64 x.e, .int .i64 x.k] 0 w3) (.inr (by simp [Value.ownBlock]; omega))).alloc (.cells #[.int .i64 x.s, .int .i64 x.e, .int .i64 x.k] 34)).grown hgrow (.inr (by rcases own_apart howo hbg.2 with h | h; (rw [h]; simp [Value.ownBlock]); (intro e; exact h e.symm))))
            have hs5 := hgrow.size
            simp only [World.size_alloc, World.size_setCell] at hs5
            clear hgrow hbel hlF hl3 hg3 howx
            go_wp2
            go_roundw
            case rel => exact ⟨f', m, os ++ [x], popL tlt t0 rs, rfl, by rw [popL_length, HRL.out, HM.out]; rfl, e2, by simp; omega, by rw [← HUN.out, E1.out]; simp, hown5, hown', hb5, by omega⟩
            case measure => exact hmn
        · have b3 : decide (x.e ≤ mark) = false := by simp [hle]
          have hu : (os, rs) = U := by rw [← hun, untilL_stop _ hx (by simp [hle])]; simp
          have HUU := Lib.hid hu
          clear hu hun hrl hx hm
          go_wp2
          go_ret3
          rw [HS.out]
          exact ⟨_, _, rfl, by rw [← HUU.out]; exact howo.mono (Nat.le_trans hbw.size hb2.size), by rw [← HUU.out]; exact hown.mono hbw.size, hbw.trans (hb.mono hbw.size)⟩
  · have b0 : (q != 0) = true := by simp [h0]
    have hs : tuntil l mark = ([], [], q) := by unfold tuntil; rw [if_pos (by rw [← hq]; exact h0), ← hq]
    have HS := Lib.hid hs
    clear hs h0 hq
    go_enter Try.func23, Try.ntmps23
    go_wp2_with (first
      | (go_at_call 24; refine (HCK.out _ (rd_grown hr (by repeat (first | with_reducible exact Below.refl _ _ | with_reducible assumption | (with_reducible exact Env.below (by assumption)) | (with_reducible refine below_new ?_ _) | (with_reducible refine below_drew ?_) | (with_reducible refine below_drewN ?_ _) | (with_reducible refine below_put ?_ ?_ _; rotate_left 1; (dsimp only; omega)) | (with_reducible refine below_then ?_ (by assumption)))))).mono ?_; rw [← HQ.out]; rintro e w1 ⟨rfl, hb1⟩; replace hL := (by with_reducible first | exact hL.below hb1 | exact (hL.new _ _).below hb1 | exact ((hL.new _ _).new _ _).below hb1 | exact (((hL.new _ _).new _ _).new _ _).below hb1 | exact ((((hL.new _ _).new _ _).new _ _).new _ _).below hb1); (repeat rw [World.size_alloc] at hL); have hF := hL; (repeat unfold Loc at hF)))
    go_ret3
    exact ⟨.slice none 0 0, .slice none 0 0, by simp [HS.out], by rw [HS.out]; exact Own.nil _ _ _, by rw [HS.out]; exact Own.nil _ _ _, (by repeat (first | with_reducible exact Below.refl _ _ | with_reducible assumption | (with_reducible exact Env.below (by assumption)) | (with_reducible refine below_new ?_ _) | (with_reducible refine below_drew ?_) | (with_reducible refine below_drewN ?_ _) | (with_reducible refine below_put ?_ ?_ _; rotate_left 1; (dsimp only; omega)) | (with_reducible refine below_then ?_ (by assumption))))⟩
end Go.Proofs.Ytffehibdeogjeaa

/- Chapter 18: plain facts of heaps of valid timers. No condition. -/
namespace Go.Proofs.Ytffehibdeogjeaa
open Go.RowKit

theorem tck_ok {l : List Tm} (h : thv l) (hl : l.length ≤ 4000) : tck l = 0 := by unfold tck; rw [if_neg (by omega), if_pos h]
theorem tck_zero {l : List Tm} (h : tck l = 0) : thv l ∧ l.length ≤ 4000 := by
  unfold tck at h
  split at h
  · cases h
  · split at h
    · exact ⟨by assumption, by omega⟩
    · cases h
theorem thv_nil : thv [] := ⟨by simp, fun k _ hk => by simp at hk⟩
theorem thv_push {l : List Tm} {x : Tm} (h : thv l) (hx : tok x) : thv (pushL tlt t0 l x) :=
  ⟨fun t ht => by
    have := (pushL_perm tlt t0 l x).mem_iff.1 ht
    rcases List.mem_append.1 this with h' | h'
    · exact h.1 t h'
    · simp at h'; exact h' ▸ hx, pushL_heap tsto t0 l x h.2⟩
theorem thv_pop {l : List Tm} (h : thv l) : thv (popL tlt t0 l) := by
  by_cases hl : l = []
  · subst hl; exact thv_nil
  · exact ⟨fun t ht => h.1 t ((popL_perm tlt t0 l hl).mem_iff.1 (List.mem_cons_of_mem _ ht)), popL_heap tsto t0 l h.2⟩
theorem tpush_ok {l : List Tm} {x : Tm} (h : thv l) (hl : l.length < 4000) (hx : tok x) : tpush l x = (pushL tlt t0 l x, 0) := by
  unfold tpush; rw [if_neg (by rw [tck_ok h (by omega)]; simp), if_neg (by simp [hx]), if_neg (by omega)]
theorem tpopl_ok {l : List Tm} (h : thv l) (hl : l.length ≤ 4000) (hne : l.length ≠ 0) : tpopl l = (l.getD 0 t0, popL tlt t0 l, 0) := by
  unfold tpopl; rw [if_neg (by rw [tck_ok h hl]; simp), if_neg hne]
theorem tuntil_ok {l : List Tm} (mark : Int) (h : thv l) (hl : l.length ≤ 4000) : tuntil l mark = ((untilL tlt t0 (fun t => decide (t.e ≤ mark)) l.length l).1, (untilL tlt t0 (fun t => decide (t.e ≤ mark)) l.length l).2, 0) := by
  unfold tuntil; rw [if_neg (by rw [tck_ok h hl]; simp)]
/-- What Until leaves of a heap of valid timers, and what it gives. -/
theorem until_plain {l : List Tm} (mark : Int) (h : thv l) (hl : l.length ≤ 4000) : ∃ U V, tuntil l mark = (U, V, 0) ∧ tck V = 0 ∧ U ++ sortL tlt t0 V = sortL tlt t0 l ∧ (∀ x ∈ U, x.e ≤ mark) ∧ (∀ x, V[0]? = some x → mark < x.e) ∧ U.length + V.length = l.length := by
  obtain ⟨h1, h2, h3, h4, h5⟩ := untilL_facts tsto t0 (fun t => decide (t.e ≤ mark)) l.length l (Nat.le_refl _) h.2
  refine ⟨_, _, tuntil_ok mark h hl, ?_, h2, fun x hx => by simpa using h3 x hx, fun x hx => ?_, h5⟩
  · refine tck_ok ⟨fun t ht => h.1 t ?_, h1⟩ (by omega)
    have := (sortL_perm tsto t0 _).mem_iff.2 ht
    have := List.mem_append_right (untilL tlt t0 (fun t => decide (t.e ≤ mark)) l.length l).1 this
    rw [h2] at this
    exact (sortL_perm tsto t0 l).mem_iff.1 this
  · rcases h4 with h4 | h4
    · rw [h4] at hx; cases hx
    · rw [getD_some hx] at h4
      simpa using h4
end Go.Proofs.Ytffehibdeogjeaa
