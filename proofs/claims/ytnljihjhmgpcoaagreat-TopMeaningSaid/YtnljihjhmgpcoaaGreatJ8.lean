/- Lemmas and contracts for the statement, joined into one text: EntriesCheck, StorePlain, StorePlain2, StorePlain3. The conditions of each stand at its head. -/
import Derived.Test.YtnljihjhmgpcoaaGreatJ1
import Derived.Test.YtnljihjhmgpcoaaGreatJ7
import Derived.Test.YtnljihjhmgpcoaaGreatJ6
import Derived.Test.YtnljihjhmgpcoaaGreatJ4
namespace Go.Proofs.YtnljihjhmgpcoaaGreat
open Go.RowKit
def en0 : En := ⟨0, 0, 0, 0, 0, 0, 0, 0, 0, 0, 0⟩
/-- As far as the first k are looked at. -/
def erk (l : List En) (k : Nat) : Prop := (∀ i, i < k → enok (l.getD i en0) = true) ∧ ∀ i, 0 < i → i < k → enlt (l.getD (i - 1) en0) (l.getD i en0) = true
open Classical in
/-- What the check of a store answers. -/
noncomputable def enchk (l : List En) : Int := if 4000 < l.length then 4 else if erk l l.length then 0 else 8
theorem erk_succ {l : List En} {k : Nat} (h : erk l k) (h1 : enok (l.getD k en0) = true) (h2 : 0 < k → enlt (l.getD (k - 1) en0) (l.getD k en0) = true) : erk l (k + 1) :=
 ⟨fun i hi => by rcases Nat.lt_succ_iff_lt_or_eq.1 hi with h' | rfl; exact h.1 i h'; exact h1, fun i h0 hi => by rcases Nat.lt_succ_iff_lt_or_eq.1 hi with h' | rfl; exact h.2 i h0 h'; exact h2 h0⟩
theorem enchk_bad {l : List En} {k : Nat} (hk : k < l.length) (h4 : l.length ≤ 4000) (h : enok (l.getD k en0) = false ∨ (0 < k ∧ enlt (l.getD (k - 1) en0) (l.getD k en0) = false)) : enchk l = 8 := by
 unfold enchk
 rw [if_neg (by omega), if_neg (fun hh => ?_)]
 rcases h with h | ⟨h0, h⟩
 ·rw [hh.1 k hk] at h; cases h
 ·rw [hh.2 k h0 hk] at h; cases h
theorem enchk_ok {l : List En} (h4 : l.length ≤ 4000) (h : erk l l.length) : enchk l = 0 := by
 unfold enchk
 rw [if_neg (by omega), if_pos h]
theorem enchk_many {l : List En} (h4 : 4000 < l.length) : enchk l = 4 := by
 unfold enchk
 rw [if_pos h4]
set_option maxHeartbeats 8000000 in
set_option maxRecDepth 100000 in
theorem storecheck_any (A : Option Addr) (c n : Nat) (l : List En) (w : World) (hn : l.length = n) (hb0 : n ≤ 1099511627776) (hr : Rd enenc 11 w w.heap.size A l) :
  Calls Tryz.prog 52 #[.slice A n c] w fun e w' => e = .returned (.int .i64 (enchk l)) ∧ Below w.heap.size w w' := by
 obtain ⟨R, hR⟩ : ∃ R, R = enchk l := ⟨_, rfl⟩
 rw [← hR]
 have HR := Lib.hid hR; have HN := Lib.hid hn
 clear hR hn
 by_cases h4 : 4000 < n
 ·obtain rfl : R = 4 := by rw [HR.out]; exact enchk_many (by rw [HN.out]; exact h4)
  have d0 : decide ((4000 : Int) < (n : Int)) = true := by simp; omega
  have d0' : decide (4000 < n) = true := by simp [h4]
  clear h4
  go_enter Tryz.func52, Tryz.ntmps52
  go_wp2
  go_ret
  exact ⟨rfl, Below.refl _ _⟩
 ·have d0 : decide ((4000 : Int) < (n : Int)) = false := by simp; omega
  have d0' : decide (4000 < n) = false := by simp [h4]
  go_enter Tryz.func52, Tryz.ntmps52
  go_wp2_with fail
  go_loopw [10] (fun i wr => ∃ k : Nat, k ≤ n ∧ i = .int .i64 k ∧ erk l k ∧ Below w.heap.size w wr) (fun i _ => n - (intOf i).toNat)
  case atStart => exact ⟨0, Nat.zero_le _, rfl, ⟨fun i h => absurd h (by omega), fun i _ h => absurd h (by omega)⟩, Below.refl _ _⟩
  case round =>
   obtain ⟨k, hk, rfl, herk, hb⟩ := hrel
   have HE := Lib.hid herk
   clear herk
   by_cases hlt : k < n
   ·obtain ⟨x, hx⟩ : ∃ x, l[k]? = some x := ⟨_, List.getElem?_eq_getElem (by rw [HN.out]; exact hlt)⟩
    have gx : l.getD k en0 = x := by rw [List.getD_eq_getElem?_getD, hx]; rfl
    have GX := Lib.hid gx
    obtain ⟨b, off, rfl, hbb, f0, f1, f2, f3, f4, f5, f6, f7, f8, f9, f10⟩ := en_cells (rd_grown hr hb) hx
    have d1 : decide ((k : Int) < (n : Int)) = true := by simp; omega
    have d1' : decide (k < n) = true := by simp [hlt]
    have k1 : (0 : Int) ≤ (k : Int) := by omega
    have k2 : (k : Int) < (n : Int) := by omega
    have e1 : IntKind.i64.wrap ((k : Int) + 1) = (k : Int) + 1 := IntWalk.i64_in _ (by omega)
    obtain ⟨B, hB⟩ : ∃ B, B = enok x := ⟨_, rfl⟩
    have hc := fun W => enright_any x W
    rw [← hB] at hc
    have HC := Lib.hid hc; have HB := Lib.hid hB
    clear hx gx hc hB
    go_wp2_with fail
    have hLb := Loc.new (Loc.nil wr) [.int .i64 x.k, .int .i64 x.s, .int .i64 x.e, .int .i64 x.c1, .int .i64 x.s1, .int .i64 x.m1, .int .i64 x.x1, .int .i64 x.c2, .int .i64 x.s2, .int .i64 x.m2, .int .i64 x.x2] 62
    obtain ⟨lE, hE, hR0⟩ := Env.abs (w0 := wr) (below_new (Below.refl _ _) _) hLb
    (repeat unfold Loc at hR0)
    cases B with
    | false =>
     refine hB (Env wr lE) fun hHeld => ?_
     refine hT 0 ?_
     refine hC 1 fun K hK => ?_; go_simp
     go_at_call 87
     refine (HC.out _).mono ?_
     rintro r w2 ⟨rfl, hb2⟩
     have hEhb2 := Env.step hb2 (by assumption); (try (have hqhb2 := kq hb2; (repeat rw [World.size_drew] at hqhb2); (repeat rw [World.size_alloc] at hqhb2); have hrhb2 := hqhb2; (repeat unfold Loc at hrhb2)))
     (refine hKp hK fun hHeld => ?_; clear hK K)
     refine hT 2 ?_; refine hT 3 ?_
     refine hSk 4 ?_; refine hSk 5 ?_; refine hSk 6 ?_; refine hSk 7 ?_; refine hSk 8 ?_; refine hSk 9 ?_; refine hSk 10 ?_; refine hSk 11 ?_; refine hSk 12 ?_; refine hSk 13 ?_; refine hSk 14 ?_; refine hSk 15 ?_
     refine hT 16 ?_
     refine hD ?_
     have hbX := hHeld.1
     clear hR0 hE
     go_wp2
     go_ret
     exact ⟨ret_i64 (by rw [HR.out]; exact (enchk_bad (k := k) (by rw [HN.out]; omega) (by rw [HN.out]; omega) (.inl (by rw [GX.out]; exact HB.out.symm))).symm), blr⟩
    | true =>
     by_cases h0 : k = 0
     ·subst h0
      have he2 : erk l (0 + 1) := erk_succ HE.out (by rw [GX.out]; exact HB.out.symm) (fun h => absurd h (by omega))
      have HE2 := Lib.hid he2
      clear he2
      refine hB (Env wr lE) fun hHeld => ?_
      refine hT 0 ?_
      refine hC 1 fun K hK => ?_; go_simp
      go_at_call 87
      refine (HC.out _).mono ?_
      rintro r w2 ⟨rfl, hb2⟩
      have hEhb2 := Env.step hb2 (by assumption); (try (have hqhb2 := kq hb2; (repeat rw [World.size_drew] at hqhb2); (repeat rw [World.size_alloc] at hqhb2); have hrhb2 := hqhb2; (repeat unfold Loc at hrhb2)))
      (refine hKp hK fun hHeld => ?_; clear hK K)
      refine hT 2 ?_; refine hT 3 ?_
      refine hT 4 ?_; refine hT 5 ?_; refine hT 6 ?_
      refine hSk 7 ?_; refine hSk 8 ?_; refine hSk 9 ?_; refine hSk 10 ?_; refine hSk 11 ?_; refine hSk 12 ?_; refine hSk 13 ?_; refine hSk 14 ?_
      refine hT 15 ?_; refine hT 16 ?_
      refine hD ?_
      have hbX := hHeld.1
      clear hR0 hE
      go_wp2
      go_roundw
      case rel => exact ⟨0 + 1, by omega, by go_num, HE2.out, below_then hb hbX⟩
      case measure => simp [intOf]; omega
     ·obtain ⟨j, rfl⟩ : ∃ j, k = j + 1 := ⟨k - 1, by omega⟩
      obtain ⟨y, hy⟩ : ∃ y, l[j]? = some y := ⟨_, List.getElem?_eq_getElem (by rw [HN.out]; omega)⟩
      have gy : l.getD j en0 = y := by rw [List.getD_eq_getElem?_getD, hy]; rfl
      have GY := Lib.hid gy
      obtain ⟨b', off', e', -, g0, g1, g2, g3, g4, g5, g6, g7, g8, g9, g10⟩ := en_cells (rd_grown hr hb) hy
      simp only [Option.some.injEq, Addr.mk.injEq, and_true] at e'
      obtain ⟨rfl, rfl⟩ := e'
      have hRy : ∀ X, Env wr lE X → X.cell? ⟨b, off + j * 11, none⟩ = some (.int .i64 y.k) ∧ X.cell? ⟨b, off + j * 11 + 1, none⟩ = some (.int .i64 y.s) ∧ X.cell? ⟨b, off + j * 11 + 2, none⟩ = some (.int .i64 y.e) ∧ X.cell? ⟨b, off + j * 11 + 3, none⟩ = some (.int .i64 y.c1) ∧ X.cell? ⟨b, off + j * 11 + 4, none⟩ = some (.int .i64 y.s1) ∧ X.cell? ⟨b, off + j * 11 + 5, none⟩ = some (.int .i64 y.m1) ∧ X.cell? ⟨b, off + j * 11 + 6, none⟩ = some (.int .i64 y.x1) ∧ X.cell? ⟨b, off + j * 11 + 7, none⟩ = some (.int .i64 y.c2) ∧ X.cell? ⟨b, off + j * 11 + 8, none⟩ = some (.int .i64 y.s2) ∧ X.cell? ⟨b, off + j * 11 + 9, none⟩ = some (.int .i64 y.m2) ∧ X.cell? ⟨b, off + j * 11 + 10, none⟩ = some (.int .i64 y.x2) := fun X hX => ⟨(hX.1.cell (p := ⟨b, off + j * 11, none⟩) hbb).trans g0, (hX.1.cell (p := ⟨b, off + j * 11 + 1, none⟩) hbb).trans g1, (hX.1.cell (p := ⟨b, off + j * 11 + 2, none⟩) hbb).trans g2, (hX.1.cell (p := ⟨b, off + j * 11 + 3, none⟩) hbb).trans g3, (hX.1.cell (p := ⟨b, off + j * 11 + 4, none⟩) hbb).trans g4, (hX.1.cell (p := ⟨b, off + j * 11 + 5, none⟩) hbb).trans g5, (hX.1.cell (p := ⟨b, off + j * 11 + 6, none⟩) hbb).trans g6, (hX.1.cell (p := ⟨b, off + j * 11 + 7, none⟩) hbb).trans g7, (hX.1.cell (p := ⟨b, off + j * 11 + 8, none⟩) hbb).trans g8, (hX.1.cell (p := ⟨b, off + j * 11 + 9, none⟩) hbb).trans g9, (hX.1.cell (p := ⟨b, off + j * 11 + 10, none⟩) hbb).trans g10⟩
      obtain ⟨Z, hZ⟩ : ∃ Z, Z = encmp y x := ⟨_, rfl⟩
      have ho := fun W => order17_any y x W
      rw [← hZ] at ho
      have HO := Lib.hid ho
      obtain ⟨D, hD⟩ : ∃ D, D = enlt y x := ⟨_, rfl⟩
      have hge : decide (0 ≤ Z) = !D := by rw [hZ, hD]; exact encmp_ge y x
      have HD := Lib.hid hD
      have e3 : IntKind.i64.wrap (j : Int) = (j : Int) := IntWalk.i64_in _ (by omega)
      have j1 : (0 : Int) ≤ (j : Int) := by omega
      have j2 : (j : Int) < (n : Int) := by omega
      clear hy gy ho hZ hD h0
      cases D with
      | false =>
       refine hB (Env wr lE) fun hHeld => ?_
       refine hT 0 ?_
       refine hC 1 fun K hK => ?_; go_simp
       go_at_call 87
       refine (HC.out _).mono ?_
       rintro r w2 ⟨rfl, hb2⟩
       have hEhb2 := Env.step hb2 (by assumption); (try (have hqhb2 := kq hb2; (repeat rw [World.size_drew] at hqhb2); (repeat rw [World.size_alloc] at hqhb2); have hrhb2 := hqhb2; (repeat unfold Loc at hrhb2)))
       (refine hKp hK fun hHeld => ?_; clear hK K)
       refine hT 2 ?_; refine hT 3 ?_
       refine hT 4 ?_; refine hT 5 ?_; refine hT 6 ?_; refine hT 7 ?_; refine hT 8 ?_; refine hT 9 ?_; refine hT 10 ?_; refine hT 11 ?_; refine hT 12 ?_
       refine hC 13 fun K hK => ?_; go_simp
       go_at_call 88
       refine (HO.out _).mono ?_
       rintro r w3 ⟨rfl, hb3⟩
       have hEhb3 := Env.step hb3 (by assumption); (try (have hqhb3 := kq hb3; (repeat rw [World.size_drew] at hqhb3); (repeat rw [World.size_alloc] at hqhb3); have hrhb3 := hqhb3; (repeat unfold Loc at hrhb3)))
       (refine hKp hK fun hHeld => ?_; clear hK K)
       refine hT 14 ?_; refine hT 15 ?_; refine hT 16 ?_
       refine hD ?_
       have hbX := hHeld.1
       clear hR0 hE hRy
       go_wp2
       go_ret
       exact ⟨ret_i64 (by rw [HR.out]; exact (enchk_bad (k := j + 1) (by rw [HN.out]; omega) (by rw [HN.out]; omega) (.inr ⟨by omega, by rw [Nat.add_sub_cancel, GY.out, GX.out]; exact HD.out.symm⟩)).symm), blr⟩
      | true =>
       have he2 : erk l (j + 1 + 1) := erk_succ HE.out (by rw [GX.out]; exact HB.out.symm) (fun _ => by rw [Nat.add_sub_cancel, GY.out, GX.out]; exact HD.out.symm)
       have HE2 := Lib.hid he2
       clear he2
       refine hB (Env wr lE) fun hHeld => ?_
       refine hT 0 ?_
       refine hC 1 fun K hK => ?_; go_simp
       go_at_call 87
       refine (HC.out _).mono ?_
       rintro r w2 ⟨rfl, hb2⟩
       have hEhb2 := Env.step hb2 (by assumption); (try (have hqhb2 := kq hb2; (repeat rw [World.size_drew] at hqhb2); (repeat rw [World.size_alloc] at hqhb2); have hrhb2 := hqhb2; (repeat unfold Loc at hrhb2)))
       (refine hKp hK fun hHeld => ?_; clear hK K)
       refine hT 2 ?_; refine hT 3 ?_
       refine hT 4 ?_; refine hT 5 ?_; refine hT 6 ?_; refine hT 7 ?_; refine hT 8 ?_; refine hT 9 ?_; refine hT 10 ?_; refine hT 11 ?_; refine hT 12 ?_
       refine hC 13 fun K hK => ?_; go_simp
       go_at_call 88
       refine (HO.out _).mono ?_
       rintro r w3 ⟨rfl, hb3⟩
       have hEhb3 := Env.step hb3 (by assumption); (try (have hqhb3 := kq hb3; (repeat rw [World.size_drew] at hqhb3); (repeat rw [World.size_alloc] at hqhb3); have hrhb3 := hqhb3; (repeat unfold Loc at hrhb3)))
       (refine hKp hK fun hHeld => ?_; clear hK K)
       refine hT 14 ?_; refine hT 15 ?_; refine hT 16 ?_
       refine hD ?_
       have hbX := hHeld.1
       clear hR0 hE hRy
       go_wp2
       go_roundw
       case rel => exact ⟨j + 1 + 1, by omega, by go_num, HE2.out, below_then hb hbX⟩
       case measure => simp [intOf]; omega
   ·obtain rfl : n = k := by omega
    obtain rfl : R = 0 := by rw [HR.out]; exact enchk_ok (by rw [HN.out]; omega) (by rw [HN.out]; exact HE.out)
    have d1 : decide ((n : Int) < (n : Int)) = false := by simp
    have d1' : decide (n < n) = false := by simp
    go_wp2
    go_ret
    exact ⟨rfl, hb⟩
/-- An accumulator that is none at all where its count is 0. -/
def Acc.wk (a : Acc) : Prop := 0 ≤ a.c ∧ (a.c = 0 → a.s = 0 ∧ a.m = 0 ∧ a.x = 0)
theorem wk_ok {a : Acc} (h : a.ok) : a.wk := by
 unfold Acc.ok at h
 unfold Acc.wk
 omega
theorem both_c {a b : Acc} (_ : a.wk) (_ : b.wk) : (aboth a b).c = a.c + b.c := by
 unfold Acc.wk at *
 unfold aboth
 split
 ·omega
 ·split
  ·omega
  ·rfl
theorem both_wk {a b : Acc} (ha : a.wk) (hb : b.wk) : (aboth a b).wk := by
 have hc := both_c ha hb
 unfold Acc.wk at *
 refine ⟨by omega, fun h0 => ?_⟩
 have : a.c = 0 := by omega
 unfold aboth
 rw [if_pos this]
 exact hb.2 (by omega)
theorem both_comm {a b : Acc} (ha : a.wk) (hb : b.wk) : aboth a b = aboth b a := by
 obtain ⟨c, s, m, x⟩ := a
 obtain ⟨d, t, n, y⟩ := b
 have e1 : s + t = t + s := Int.add_comm _ _
 unfold aboth Acc.wk at *
 grind
theorem wrap_add_l (a b : Int) : wrap64 (wrap64 a + b) = wrap64 (a + b) := by unfold wrap64; omega
theorem wrap_add_r (a b : Int) : wrap64 (a + wrap64 b) = wrap64 (a + b) := by unfold wrap64; omega
theorem both_assoc {a b c : Acc} (ha : a.wk) (hb : b.wk) (hc : c.wk) : aboth (aboth a b) c = aboth a (aboth b c) := by
 obtain ⟨c1, s, m, x⟩ := a
 obtain ⟨d, t, n, y⟩ := b
 obtain ⟨f, u, o, z⟩ := c
 have e1 : wrap64 (wrap64 (s + t) + u) = wrap64 (s + wrap64 (t + u)) := by rw [wrap_add_l, wrap_add_r, Int.add_assoc]
 unfold Acc.wk at ha hb hc
 simp only at ha hb hc
 have g1 := ha.1
 have g2 := hb.1
 have g3 := hc.1
 clear ha hb hc
 unfold aboth
 simp only
 by_cases h1 : c1 = 0
 ·simp [h1]
 ·by_cases h2 : d = 0
  ·simp [h1, h2]
  ·have h4 : ¬ c1 + d = 0 := by omega
   by_cases h3 : f = 0
   ·simp [h1, h2, h3, h4]
   ·have h5 : ¬ d + f = 0 := by omega
    simp [h1, h2, h3, h4, h5, e1]
    omega
theorem both_ok {a b : Acc} (ha : a.ok) (hb : b.ok) (h : a.c + b.c ≤ 1073741824) : (aboth a b).ok := by
 obtain ⟨c, s, m, x⟩ := a
 obtain ⟨d, t, n, y⟩ := b
 unfold Acc.ok at ha hb
 simp only at ha hb h
 unfold aboth
 by_cases h1 : c = 0
 ·rw [if_pos h1]; unfold Acc.ok; simp only; omega
 ·by_cases h2 : d = 0
  ·rw [if_neg h1, if_pos h2]; unfold Acc.ok; simp only; omega
  ·rw [if_neg h1, if_neg h2]; unfold Acc.ok; simp only; omega
def En.a (x : En) : Acc := ⟨x.c1, x.s1, x.m1, x.x1⟩
def En.b (x : En) : Acc := ⟨x.c2, x.s2, x.m2, x.x2⟩
def mkEn (k s e : Int) (a b : Acc) : En := ⟨k, s, e, a.c, a.s, a.m, a.x, b.c, b.s, b.m, b.x⟩
/-- Two entries in one. -/
def enJ (x y : En) : En := mkEn x.k (min x.s y.s) (max x.e y.e) (aboth x.a y.a) (aboth x.b y.b)
/-- An entry meets another one: of its key, with the same window, or one that overlaps. -/
def hitE (sess : Bool) (x y : En) : Bool := decide (y.k = x.k) && (decide (y.s = x.s ∧ y.e = x.e) || (sess && (decide (y.s < x.e) && decide (x.s < y.e))))
/-- What every entry here is: not empty, with accumulators. -/
def enw (x : En) : Prop := x.s < x.e ∧ x.a.wk ∧ x.b.wk
theorem enw_J {x y : En} (hx : enw x) (hy : enw y) : enw (enJ x y) := ⟨by have := hx.1; have := hy.1; show min x.s y.s < max x.e y.e; omega, both_wk hx.2.1 hy.2.1, both_wk hx.2.2 hy.2.2⟩
theorem enJ_a (x y : En) : (enJ x y).a = aboth x.a y.a := rfl
theorem enJ_b (x y : En) : (enJ x y).b = aboth x.b y.b := rfl
theorem en_ext {x y : En} (h1 : x.k = y.k) (h2 : x.s = y.s) (h3 : x.e = y.e) (h4 : x.a = y.a) (h5 : x.b = y.b) : x = y := by
 obtain ⟨k, s, e, c1, s1, m1, x1, c2, s2, m2, x2⟩ := x
 obtain ⟨k', s', e', c1', s1', m1', x1', c2', s2', m2', x2'⟩ := y
 simp only [En.a, En.b, Acc.mk.injEq] at *
 simp [h1, h2, h3, h4, h5]
theorem enJ_swap {z x y : En} (hz : enw z) (hx : enw x) (hy : enw y) : enJ (enJ z x) y = enJ (enJ z y) x := by
 refine en_ext rfl ?_ ?_ ?_ ?_
 ·show min (min z.s x.s) y.s = min (min z.s y.s) x.s; omega
 ·show max (max z.e x.e) y.e = max (max z.e y.e) x.e; omega
 ·show aboth (aboth z.a x.a) y.a = aboth (aboth z.a y.a) x.a
  rw [both_assoc hz.2.1 hx.2.1 hy.2.1, both_assoc hz.2.1 hy.2.1 hx.2.1, both_comm hx.2.1 hy.2.1]
 ·show aboth (aboth z.b x.b) y.b = aboth (aboth z.b y.b) x.b
  rw [both_assoc hz.2.2 hx.2.2 hy.2.2, both_assoc hz.2.2 hy.2.2 hx.2.2, both_comm hx.2.2 hy.2.2]
theorem foldl_perm {α β : Type} {f : β → α → β} {P : β → Prop} {Q : α → Prop} (hP : ∀ z x, P z → Q x → P (f z x)) (hc : ∀ z x y, P z → Q x → Q y → f (f z x) y = f (f z y) x) {l m : List α} (p : l.Perm m) :
  ∀ z, P z → (∀ x ∈ l, Q x) → l.foldl f z = m.foldl f z := by
 induction p with
 | nil => intro z _ _; rfl
 | cons x _ ih => intro z hz hq; exact ih _ (hP _ _ hz (hq x (by simp))) (fun y hy => hq y (by simp [hy]))
 | swap x y l => intro z hz hq; simp only [List.foldl_cons]; rw [hc z y x hz (hq y (by simp)) (hq x (by simp))]
 | trans p1 _ ih1 ih2 => intro z hz hq; rw [ih1 z hz hq, ih2 z hz (fun x hx => hq x (p1.mem_iff.2 hx))]
theorem foldJ_perm {ys zs : List En} (p : ys.Perm zs) {x : En} (hx : enw x) (hy : ∀ y ∈ ys, enw y) : ys.foldl enJ x = zs.foldl enJ x :=
 foldl_perm (P := enw) (Q := enw) (fun _ _ h1 h2 => enw_J h1 h2) (fun _ _ _ h1 h2 h3 => enJ_swap h1 h2 h3) p x hx hy
theorem foldJ_k (x : En) (ys : List En) : (ys.foldl enJ x).k = x.k := by
 induction ys generalizing x with
 | nil => rfl
 | cons y ys ih => exact ih _
theorem foldJ_w {x : En} (hx : enw x) : ∀ {ys : List En}, (∀ y ∈ ys, enw y) → enw (ys.foldl enJ x) := by
 intro ys
 induction ys generalizing x with
 | nil => intro _; exact hx
 | cons y ys ih => intro h; exact ih (enw_J hx (h y (by simp))) (fun z hz => h z (by simp [hz]))
theorem foldJ_hull (x : En) (ys : List En) : (ys.foldl enJ x).s ≤ x.s ∧ x.e ≤ (ys.foldl enJ x).e ∧ ∀ y ∈ ys, (ys.foldl enJ x).s ≤ y.s ∧ y.e ≤ (ys.foldl enJ x).e := by
 induction ys generalizing x with
 | nil => simp
 | cons y ys ih =>
  obtain ⟨h1, h2, h3⟩ := ih (enJ x y)
  have e1 : (enJ x y).s = min x.s y.s := rfl
  have e2 : (enJ x y).e = max x.e y.e := rfl
  refine ⟨by simp only [List.foldl_cons]; omega, by simp only [List.foldl_cons]; omega, fun z hz => ?_⟩
  rcases List.mem_cons.1 hz with rfl | hz
  ·exact ⟨by simp only [List.foldl_cons]; omega, by simp only [List.foldl_cons]; omega⟩
  ·exact h3 z hz
/-- An entry takes in others that it meets, one after the other. -/
inductive Meets (h : En → En → Bool) : List En → En → List En → En → Prop
 | done (l : List En) (x : En) : Meets h l x l x
 | step {p q : List En} {x y : En} {l' : List En} {x' : En} : h x y = true → Meets h (p ++ q) (enJ x y) l' x' → Meets h (p ++ y :: q) x l' x'
theorem Meets.snoc {h : En → En → Bool} {l : List En} {x : En} {p q : List En} {y x1 : En} {l1 : List En} (hm : Meets h l x l1 x1) (hl : l1 = p ++ y :: q) (hh : h x1 y = true) : Meets h l x (p ++ q) (enJ x1 y) := by
 induction hm with
 | done l x => subst hl; exact .step hh (.done _ _)
 | step h1 _ ih => exact .step h1 (ih hl hh)
theorem Meets.facts {sess : Bool} {l : List En} {x : En} {l' : List En} {x' : En} (hm : Meets (hitE sess) l x l' x') :
  ∃ ys : List En, l.Perm (ys ++ l') ∧ l'.Sublist l ∧ x' = ys.foldl enJ x ∧ ys.length + l'.length = l.length ∧ ∀ y ∈ ys, y.k = x.k ∧ (sess = false → y.s = x.s ∧ y.e = x.e) := by
 induction hm with
 | done l x => exact ⟨[], List.Perm.refl _, List.Sublist.refl _, rfl, by simp, by simp⟩
 | @step p q x y l' x' h1 _ ih =>
  obtain ⟨ys, h2, h3, h4, h5, h6⟩ := ih
  unfold hitE at h1
  simp only [Bool.and_eq_true, Bool.or_eq_true, decide_eq_true_eq] at h1
  have e1 : (enJ x y).s = min x.s y.s := rfl
  have e2 : (enJ x y).e = max x.e y.e := rfl
  have e3 : (enJ x y).k = x.k := rfl
  have hone : sess = false → y.s = x.s ∧ y.e = x.e := fun hs => by
   rcases h1.2 with h | h
   ·exact h
   ·rw [hs] at h; exact absurd h.1 (by simp)
  refine ⟨y :: ys, ?_, h3.trans (List.Sublist.append_left (List.sublist_cons_self y q) p), h4, by simp at *; omega, fun z hz => ?_⟩
  ·exact List.perm_middle.trans (h2.cons y)
  ·rcases List.mem_cons.1 hz with rfl | hz
   ·exact ⟨h1.1, hone⟩
   ·obtain ⟨g1, g2⟩ := h6 z hz
    refine ⟨g1.trans e3, fun hs => ?_⟩
    have := g2 hs
    have := hone hs
    omega
/-- It has taken in all of an interval's, if it is within it and what meets the interval is within it. -/
theorem Meets.within {sess : Bool} {l : List En} {x : En} {l' : List En} {x' : En} (hm : Meets (hitE sess) l x l' x') {S E : Int} (h1 : S ≤ x.s) (h2 : x.e ≤ E) (hw : x.s < x.e) (hl : ∀ y ∈ l, y.s < y.e)
  (hc : ∀ y ∈ l, y.k = x.k → y.s < E → S < y.e → S ≤ y.s ∧ y.e ≤ E) : S ≤ x'.s ∧ x'.e ≤ E := by
 induction hm with
 | done l x => exact ⟨h1, h2⟩
 | @step p q x y l' x' hh _ ih =>
  have hy : y ∈ p ++ y :: q := by simp
  have hyw := hl y hy
  unfold hitE at hh
  simp only [Bool.and_eq_true, Bool.or_eq_true, decide_eq_true_eq] at hh
  have hin := hc y hy hh.1 (by omega) (by omega)
  have e1 : (enJ x y).s = min x.s y.s := rfl
  have e2 : (enJ x y).e = max x.e y.e := rfl
  have e3 : (enJ x y).k = x.k := rfl
  have hsub : ∀ z ∈ p ++ q, z ∈ p ++ y :: q := fun z hz => by
   rcases List.mem_append.1 hz with h | h
   ·exact List.mem_append_left _ h
   ·exact List.mem_append_right _ (List.mem_cons_of_mem _ h)
  exact ih (by omega) (by omega) (by omega) (fun z hz => hl z (hsub z hz)) (fun z hz hk => hc z (hsub z hz) (by rw [hk, e3]))
theorem filter_of_sub {l l' ys : List En} {p : En → Bool} (hp : l.Perm (ys ++ l')) (hs : l'.Sublist l) (h1 : ∀ y ∈ ys, p y = false) (h2 : ∀ y ∈ l', p y = true) : l' = l.filter p := by
 have e : (ys ++ l').filter p = l' := by
  rw [List.filter_append, List.filter_eq_nil_iff.2 (fun y hy => by simp [h1 y hy]), List.filter_eq_self.2 h2, List.nil_append]
 have hlen : (l.filter p).length = l'.length := by
  have := (hp.filter p).length_eq
  rwa [e] at this
 have hsub : l'.Sublist (l.filter p) := by
  have := hs.filter p
  rwa [List.filter_eq_self.2 h2] at this
 exact hsub.eq_of_length hlen.symm
theorem hitE_sess {x y : En} (hx : x.s < x.e) (hy : y.s < y.e) : hitE true x y = decide (y.k = x.k ∧ y.s < x.e ∧ x.s < y.e) := by
 unfold hitE
 rw [Bool.eq_iff_iff]
 simp only [Bool.and_eq_true, Bool.or_eq_true, decide_eq_true_eq, Bool.true_and]
 omega
theorem hitE_one {x y : En} : hitE false x y = decide (y.k = x.k ∧ y.s = x.s ∧ y.e = x.e) := by
 unfold hitE
 rw [Bool.eq_iff_iff]
 simp
theorem Meets.key {sess : Bool} {l : List En} {x : En} {l' : List En} {x' : En} (hm : Meets (hitE sess) l x l' x') : x'.k = x.k := by
 obtain ⟨ys, _, _, rfl, _⟩ := hm.facts
 exact foldJ_k x ys
theorem foldJ_same {x : En} : ∀ {ys : List En}, (∀ y ∈ ys, y.s = x.s ∧ y.e = x.e) → (ys.foldl enJ x).s = x.s ∧ (ys.foldl enJ x).e = x.e := by
 intro ys
 induction ys generalizing x with
 | nil => intro _; exact ⟨rfl, rfl⟩
 | cons y ys ih =>
  intro h
  have hy := h y (by simp)
  have e1 : (enJ x y).s = min x.s y.s := rfl
  have e2 : (enJ x y).e = max x.e y.e := rfl
  have := ih (x := enJ x y) (fun z hz => by have := h z (by simp [hz]); omega)
  simp only [List.foldl_cons]
  omega
/-- In the end those are left that it does not meet, and it has taken in the others. -/
theorem Meets.ended {sess : Bool} {l : List En} {x : En} {l' : List En} {x' : En} (hm : Meets (hitE sess) l x l' x') (hx : enw x) (hl : ∀ y ∈ l, enw y) (he : ∀ y ∈ l', hitE sess x' y = false) :
  l' = l.filter (fun y => !hitE sess x' y) ∧ (∃ ys : List En, ys.Perm (l.filter (hitE sess x')) ∧ x' = ys.foldl enJ x) ∧ enw x' ∧ x'.k = x.k ∧ x'.s ≤ x.s ∧ x.e ≤ x'.e ∧ (sess = false → x'.s = x.s ∧ x'.e = x.e) ∧ ∀ y ∈ l, hitE sess x' y = true → x'.s ≤ y.s ∧ y.e ≤ x'.e := by
 obtain ⟨ys, h1, h2, h3, _, hkey⟩ := hm.facts
 have hys : ∀ y ∈ ys, enw y := fun y hy => hl y (h1.mem_iff.2 (List.mem_append_left _ hy))
 have hx' : enw x' := by rw [h3]; exact foldJ_w hx hys
 have hhull := foldJ_hull x ys
 rw [← h3] at hhull
 have hk : x'.k = x.k := hm.key
 have hone : sess = false → x'.s = x.s ∧ x'.e = x.e := fun hs => by
  rw [h3]
  exact foldJ_same (fun y hy => (hkey y hy).2 hs)
 have hit : ∀ y ∈ ys, hitE sess x' y = true := fun y hy => by
  have g1 := hhull.2.2 y hy
  have g2 := (hys y hy).1
  obtain ⟨g3, g4⟩ := hkey y hy
  cases sess with
  | true =>
   rw [hitE_sess hx'.1 (hys y hy).1]
   simp only [decide_eq_true_eq]
   omega
  | false =>
   rw [hitE_one]
   have := g4 rfl
   have := hone rfl
   simp only [decide_eq_true_eq]
   omega
 have hf : l' = l.filter (fun y => !hitE sess x' y) := filter_of_sub h1 h2 (fun y hy => by simp [hit y hy]) (fun y hy => by simp [he y hy])
 refine ⟨hf, ⟨ys, ?_, h3⟩, hx', hk, hhull.1, hhull.2.1, hone, fun y hy hh => ?_⟩
 ·have hp := h1.filter (hitE sess x')
  have e0 : l'.filter (hitE sess x') = [] := List.filter_eq_nil_iff.2 (fun y hy => by simp [he y hy])
  rw [List.filter_append, List.filter_eq_self.2 hit, e0, List.append_nil] at hp
  exact hp.symm
 ·rcases List.mem_append.1 (h1.mem_iff.1 hy) with h | h
  ·exact hhull.2.2 y h
  ·rw [he y h] at hh; cases hh
theorem hitE_congr {sess : Bool} {x x' : En} (h1 : x.k = x'.k) (h2 : x.s = x'.s) (h3 : x.e = x'.e) : hitE sess x = hitE sess x' := by
 funext y
 unfold hitE
 rw [h1, h2, h3]
/-- Whatever the order, the same is left and the same is taken in. -/
theorem meets_unique {sess : Bool} {l m : List En} {x : En} {l1 l2 : List En} {x1 x2 : En} (hx : enw x) (hl : ∀ y ∈ l, enw y) (hp : l.Perm m)
  (hm1 : Meets (hitE sess) l x l1 x1) (he1 : ∀ y ∈ l1, hitE sess x1 y = false) (hm2 : Meets (hitE sess) m x l2 x2) (he2 : ∀ y ∈ l2, hitE sess x2 y = false) :
  x1 = x2 ∧ l1.Perm l2 ∧ (l = m → l1 = l2) := by
 have hlm : ∀ y ∈ m, enw y := fun y hy => hl y (hp.mem_iff.2 hy)
 obtain ⟨a1, ⟨ys1, a2, a3⟩, a4, a5, a6, a7, a8, a9⟩ := hm1.ended hx hl he1
 obtain ⟨b1, ⟨ys2, b2, b3⟩, b4, b5, b6, b7, b8, b9⟩ := hm2.ended hx hlm he2
 have hse : x1.s = x2.s ∧ x1.e = x2.e := by
  cases sess with
  | false =>
   have := a8 rfl
   have := b8 rfl
   omega
  | true =>
   have h12 := hm1.within b6 b7 hx.1 (fun y hy => (hl y hy).1) (fun y hy hk h1 h2 => b9 y (hp.mem_iff.1 hy) (by
    rw [hitE_sess b4.1 (hl y hy).1]; simp only [decide_eq_true_eq]; omega))
   have h21 := hm2.within a6 a7 hx.1 (fun y hy => (hlm y hy).1) (fun y hy hk h1 h2 => a9 y (hp.mem_iff.2 hy) (by
    rw [hitE_sess a4.1 (hlm y hy).1]; simp only [decide_eq_true_eq]; omega))
   omega
 have hh : hitE sess x1 = hitE sess x2 := hitE_congr (a5.trans b5.symm) hse.1 hse.2
 have hys : ys1.Perm ys2 := by
  refine a2.trans (List.Perm.trans ?_ b2.symm)
  rw [hh]
  exact hp.filter _
 refine ⟨?_, ?_, fun e => ?_⟩
 ·rw [a3, b3]
  exact foldJ_perm hys hx (fun y hy => hl y (List.mem_filter.1 (a2.mem_iff.1 hy)).1)
 ·rw [a1, b1, hh]
  exact hp.filter _
 ·rw [a1, b1, hh, e]
/-- Taking in by the first that is met, as long as there is one. -/
def absorb (h : En → En → Bool) : Nat → List En → En → List En × En
 | 0, l, x => (l, x)
 | n + 1, l, x => match l.findIdx? (h x) with
  | none => (l, x)
  | some i => absorb h n (l.eraseIdx i) (enJ x (l.getD i en0))
theorem getD_of {α : Type} {l : List α} {i : Nat} {x d : α} (h : l[i]? = some x) : l.getD i d = x := by rw [List.getD_eq_getElem?_getD, h]; rfl
theorem split_at {α : Type} {l : List α} {i : Nat} {x : α} (h : l[i]? = some x) : l = l.take i ++ x :: l.drop (i + 1) ∧ l.eraseIdx i = l.take i ++ l.drop (i + 1) := by
 obtain ⟨hi, rfl⟩ := List.getElem?_eq_some_iff.1 h
 refine ⟨?_, List.eraseIdx_eq_take_drop_succ l i⟩
 rw [List.getElem_cons_drop, List.take_append_drop]
theorem absorb_meets (h : En → En → Bool) : ∀ (n : Nat) (l : List En) (x : En), Meets h l x (absorb h n l x).1 (absorb h n l x).2
 | 0, l, x => .done l x
 | n + 1, l, x => by
  unfold absorb
  cases hf : l.findIdx? (h x) with
  | none => exact .done l x
  | some i =>
   obtain ⟨hi, hpi, _⟩ := List.findIdx?_eq_some_iff_getElem.1 hf
   obtain ⟨e1, e2⟩ := split_at (List.getElem?_eq_getElem hi)
   have hd : l.getD i en0 = l[i] := getD_of (List.getElem?_eq_getElem hi)
   simp only [hd, e2]
   have := absorb_meets h n (l.take i ++ l.drop (i + 1)) (enJ x l[i])
   have hs := Meets.step (p := l.take i) (q := l.drop (i + 1)) (x := x) (y := l[i]) hpi this
   rw [← e1] at hs
   exact hs
theorem absorb_ended (h : En → En → Bool) : ∀ (n : Nat) (l : List En) (x : En), l.length ≤ n → ∀ y ∈ (absorb h n l x).1, h (absorb h n l x).2 y = false
 | 0, l, x, hn => by
  obtain rfl : l = [] := List.eq_nil_of_length_eq_zero (by omega)
  simp [absorb]
 | n + 1, l, x, hn => by
  unfold absorb
  cases hf : l.findIdx? (h x) with
  | none =>
   intro y hy
   have := List.findIdx?_eq_none_iff.1 hf y hy
   simpa using this
  | some i =>
   obtain ⟨hi, _, _⟩ := List.findIdx?_eq_some_iff_getElem.1 hf
   exact absorb_ended h n _ _ (by rw [List.length_eraseIdx_of_lt hi]; omega)
theorem enlt_iff {a b : En} : enlt a b = true ↔ a.e < b.e ∨ (a.e = b.e ∧ (a.s < b.s ∨ (a.s = b.s ∧ a.k < b.k))) := by simp [enlt]
theorem enlt_irr (a : En) : enlt a a = false := by simp [enlt]
theorem enlt_tr {a b c : En} (h1 : enlt a b = true) (h2 : enlt b c = true) : enlt a c = true := by
 rw [enlt_iff] at *
 omega
theorem enlt_asym {a b : En} (h1 : enlt a b = true) : enlt b a = false := by
 cases h : enlt b a with
 | false => rfl
 | true => have := enlt_tr h1 h; rw [enlt_irr] at this; cases this
def SS (l : List En) : Prop := l.Pairwise fun a b => enlt a b = true
theorem SS.unique : ∀ {l m : List En}, l.Perm m → SS l → SS m → l = m
 | [], m, hp, _, _ => (List.nil_perm.1 hp).symm
 | x :: l, [], hp, _, _ => absurd hp.length_eq (by simp)
 | x :: l, y :: m, hp, h1, h2 => by
  have hxy : x = y := by
   rcases List.mem_cons.1 (hp.mem_iff.1 (List.mem_cons_self (a := x) (l := l))) with h | h
   ·exact h
   ·rcases List.mem_cons.1 (hp.mem_iff.2 (List.mem_cons_self (a := y) (l := m))) with h' | h'
    ·exact h'.symm
    ·have g1 := List.rel_of_pairwise_cons h2 h
     have g2 := List.rel_of_pairwise_cons h1 h'
     rw [enlt_asym g1] at g2
     cases g2
  subst hxy
  rw [SS.unique (hp.cons_inv) (List.Pairwise.of_cons h1) (List.Pairwise.of_cons h2)]
/-- Two entries of different keys. -/
def dif (a b : En) : Prop := enlt a b = true ∨ enlt b a = true
theorem dif_of {a b : En} (h : ¬ (a.k = b.k ∧ a.s = b.s ∧ a.e = b.e)) : dif a b := by
 unfold dif
 rw [enlt_iff, enlt_iff]
 omega
theorem dif_symm {a b : En} (h : dif a b) : dif b a := h.elim .inr .inl
/-- An entry put in at its place. -/
def insE (l : List En) (x : En) : List En := l.takeWhile (fun y => enlt y x) ++ x :: l.dropWhile (fun y => enlt y x)
theorem insE_perm (l : List En) (x : En) : (insE l x).Perm (x :: l) := by
 unfold insE
 refine List.perm_middle.trans ?_
 rw [List.takeWhile_append_dropWhile]
theorem insE_ss {l : List En} {x : En} (hl : SS l) (hx : ∀ y ∈ l, dif y x) : SS (insE l x) := by
 unfold insE
 induction l with
 | nil => simp [SS]
 | cons y l ih =>
  have hl' := List.Pairwise.of_cons hl
  have hx' : ∀ z ∈ l, dif z x := fun z hz => hx z (by simp [hz])
  have hyl : ∀ z ∈ l, enlt y z = true := fun z hz => List.rel_of_pairwise_cons hl hz
  by_cases hy : enlt y x = true
  ·simp only [List.takeWhile_cons, List.dropWhile_cons, hy, if_true, List.cons_append]
   refine List.Pairwise.cons (fun z hz => ?_) (ih hl' hx')
   have : z ∈ x :: l := (insE_perm l x).mem_iff.1 hz
   rcases List.mem_cons.1 this with rfl | h
   ·exact hy
   ·exact hyl z h
  ·simp only [List.takeWhile_cons, List.dropWhile_cons, hy]
   have hxy : enlt x y = true := (hx y (by simp)).resolve_left hy
   refine List.Pairwise.cons (fun z hz => ?_) hl
   rcases List.mem_cons.1 hz with rfl | h
   ·exact hxy
   ·exact enlt_tr hxy (hyl z h)
def sortE (l : List En) : List En := l.foldl insE []
theorem sortE_facts : ∀ {l : List En}, l.Pairwise dif → (sortE l).Perm l ∧ SS (sortE l) := by
 suffices H : ∀ (l acc : List En), SS acc → (∀ x ∈ l, ∀ y ∈ acc, dif y x) → l.Pairwise dif → (l.foldl insE acc).Perm (acc ++ l) ∧ SS (l.foldl insE acc) by
  intro l hl
  have := H l [] List.Pairwise.nil (by simp) hl
  simpa [sortE] using this
 intro l
 induction l with
 | nil => intro acc h1 _ _; exact ⟨by simp, h1⟩
 | cons x l ih =>
  intro acc h1 h2 h3
  have hp := insE_perm acc x
  have := ih (insE acc x) (insE_ss h1 (fun y hy => h2 x (by simp) y hy)) (fun z hz y hy => by
   rcases List.mem_cons.1 (hp.mem_iff.1 hy) with rfl | h
   ·exact List.rel_of_pairwise_cons h3 hz
   ·exact h2 z (by simp [hz]) y h) (List.Pairwise.of_cons h3)
  refine ⟨this.1.trans ?_, this.2⟩
  exact (hp.append_right l).trans (by simpa using (List.perm_middle (a := x) (l₁ := acc) (l₂ := l)).symm)
theorem sortE_eq {l m : List En} (hp : l.Perm m) (hm : SS m) : sortE l = m := by
 have hd : m.Pairwise dif := List.Pairwise.imp (fun h => .inl h) hm
 have hl : l.Pairwise dif := (hp.pairwise_iff (fun h => dif_symm h)).2 hd
 obtain ⟨h1, h2⟩ := sortE_facts hl
 exact SS.unique (h1.trans hp) h2 hm
theorem while_at {α : Type} {p : α → Bool} : ∀ {l : List α} {i : Nat}, i ≤ l.length → (∀ m y, m < i → l[m]? = some y → p y = true) → (∀ y, l[i]? = some y → p y = false) → l.takeWhile p = l.take i ∧ l.dropWhile p = l.drop i
 | [], i, _, _, _ => by simp
 | y :: l, 0, _, _, h2 => by
  have := h2 y rfl
  simp [this]
 | y :: l, i + 1, h0, h1, h2 => by
  have hy := h1 0 y (by omega) rfl
  have := while_at (l := l) (i := i) (by simpa using h0) (fun m z hm hz => h1 (m + 1) z (by omega) (by simpa using hz)) (fun z hz => h2 z (by simpa using hz))
  simp [hy, this.1, this.2]
/-- The place of an entry: as many as come before it. -/
def plE (l : List En) (x : En) : Nat := (l.takeWhile fun y => enlt y x).length
theorem plE_le (l : List En) (x : En) : plE l x ≤ l.length := (List.takeWhile_sublist _).length_le
theorem plE_at {l : List En} {x : En} {i : Nat} (h0 : i ≤ l.length) (h1 : ∀ m y, m < i → l[m]? = some y → enlt y x = true) (h2 : ∀ y, l[i]? = some y → enlt y x = false) : plE l x = i ∧ insE l x = l.take i ++ x :: l.drop i := by
 obtain ⟨e1, e2⟩ := while_at (p := fun y => enlt y x) h0 h1 h2
 refine ⟨?_, ?_⟩
 ·unfold plE; rw [e1]; simp; omega
 ·unfold insE; rw [e1, e2]
theorem ss_get {l : List En} (h : SS l) {i j : Nat} {x y : En} (hij : i < j) (hx : l[i]? = some x) (hy : l[j]? = some y) : enlt x y = true := by
 obtain ⟨hi, rfl⟩ := List.getElem?_eq_some_iff.1 hx
 obtain ⟨hj, rfl⟩ := List.getElem?_eq_some_iff.1 hy
 exact List.pairwise_iff_getElem.1 h i j hi hj hij
theorem enlt_key {a b c : En} (h1 : a.k = b.k) (h2 : a.s = b.s) (h3 : a.e = b.e) : enlt a c = enlt b c ∧ enlt c a = enlt c b := by
 constructor <;> (rw [Bool.eq_iff_iff, enlt_iff, enlt_iff, h1, h2, h3])
theorem ss_set {l : List En} (h : SS l) {i : Nat} {x y : En} (hx : l[i]? = some x) (h1 : x.k = y.k) (h2 : x.s = y.s) (h3 : x.e = y.e) : SS (l.set i y) := by
 unfold SS at *
 rw [List.pairwise_iff_getElem] at *
 obtain ⟨hi, rfl⟩ := List.getElem?_eq_some_iff.1 hx
 intro a b ha hb hab
 simp only [List.length_set] at ha hb
 have := h a b ha hb hab
 rw [List.getElem_set, List.getElem_set]
 by_cases e1 : i = a
 ·subst e1
  rw [if_pos rfl, if_neg (by omega), ← (enlt_key h1 h2 h3).1]
  exact this
 ·rw [if_neg e1]
  by_cases e2 : i = b
  ·subst e2
   rw [if_pos rfl, ← (enlt_key h1 h2 h3).2]
   exact this
  ·rw [if_neg e2]
   exact this
theorem ss_sub {l m : List En} (h : SS l) (hs : m.Sublist l) : SS m := List.Pairwise.sublist hs h
theorem set_perm {α : Type} {l : List α} {i : Nat} {x y : α} (hx : l[i]? = some x) : (l.set i y).Perm (l.eraseIdx i ++ [y]) := by
 obtain ⟨hi, rfl⟩ := List.getElem?_eq_some_iff.1 hx
 rw [List.set_eq_take_append_cons_drop, if_pos hi, List.eraseIdx_eq_take_drop_succ]
 refine List.perm_middle.trans ?_
 exact (List.perm_append_singleton y _).symm
/-- One that is of the same key and window takes the other's place. -/
theorem insE_set {l : List En} (h : SS l) {i : Nat} {x y : En} (hx : l[i]? = some x) (h1 : x.k = y.k) (h2 : x.s = y.s) (h3 : x.e = y.e) : insE (l.eraseIdx i) y = l.set i y := by
 have hs : SS (l.set i y) := ss_set h hx h1 h2 h3
 have hse : SS (l.eraseIdx i) := ss_sub h (List.eraseIdx_sublist l i)
 refine SS.unique ((insE_perm _ _).trans ?_) (insE_ss hse (fun z hz => ?_)) hs
 ·exact ((set_perm (y := y) hx).trans (List.perm_append_singleton y _)).symm
 ·obtain ⟨j, hj⟩ := List.mem_iff_getElem?.1 hz
  rw [List.getElem?_eraseIdx] at hj
  have hd : dif z x := by
   split at hj
   ·rename_i hlt; exact .inl (ss_get h hlt hj hx)
   ·rename_i hge; exact .inr (ss_get h (by omega) hx hj)
  rcases hd with h' | h'
  ·exact .inl (by rw [← (enlt_key (c := z) h1 h2 h3).2]; exact h')
  ·exact .inr (by rw [← (enlt_key (c := z) h1 h2 h3).1]; exact h')
def accV (v : Int) : Acc := ⟨1, v, v, v⟩
def acc0 : Acc := ⟨0, 0, 0, 0⟩
/-- The entry of a record in a window. -/
def recE (k v side s e : Int) : En := mkEn k s e (if side = 0 then accV v else acc0) (if side = 0 then acc0 else accV v)
def fitE (x : En) : Bool := decide (x.c1 ≤ 1073741824 ∧ x.c2 ≤ 1073741824)
def withE (sess : Bool) (l : List En) (x : En) : List En × Bool := ((absorb (hitE sess) l.length l x).1 ++ [(absorb (hitE sess) l.length l x).2], fitE (absorb (hitE sess) l.length l x).2)
/-- An entry put into a sorted list. -/
def putE (sess : Bool) (l : List En) (x : En) : List En × Bool := (insE (absorb (hitE sess) l.length l x).1 (absorb (hitE sess) l.length l x).2, fitE (absorb (hitE sess) l.length l x).2)
def foldW (f : List En → En → List En × Bool) (mk : Int × Int → En) (ss : List (Int × Int)) (l : List En) : List En × Bool := ss.foldl (fun st p => ((f st.1 (mk p)).1, st.2 && (f st.1 (mk p)).2)) (l, true)
/-- What is given of a store and a record, unsorted. -/
def rawE (l : List En) (wk ws we rk rt rv side : Int) : List En × Bool :=
 if wk = 3 then withE true l (recE rk rv side rt (rt + ws)) else foldW (withE false) (fun p => recE rk rv side p.1 p.2) (wspans wk ws we rt) l
def givE (l : List En) (wk ws we rk rt rv side : Int) : List En × Bool :=
 (sortE (rawE l wk ws we rk rt rv side).1, (rawE l wk ws we rk rt rv side).2 && decide ((rawE l wk ws we rk rt rv side).1.length ≤ 4000))
open Classical in
noncomputable def addE (l : List En) (wk ws we rk rt rv side : Int) : List En × Int :=
 if enchk l ≠ 0 then ([], enchk l) else if ¬ wok wk ws we then ([], 8) else if side < 0 ∨ 1 < side then ([], 2) else if rt < -1099511627776 ∨ 1099511627776 < rt then ([], 16)
 else if (givE l wk ws we rk rt rv side).2 = true then ((givE l wk ws we rk rt rv side).1, 0) else ([], 4)
/-- What a check says. -/
theorem enok_iff {x : En} : enok x = true ↔ (-1100585369600 ≤ x.s ∧ x.s < x.e ∧ x.e ≤ 1100585369600) ∧ x.a.ok ∧ x.b.ok ∧ 0 < x.c1 + x.c2 := by
 unfold enok accok
 simp only [Bool.and_eq_true, decide_eq_true_eq]
 constructor
 ·rintro ⟨h1, h2, h3, h4⟩; exact ⟨h1, h2, h3, h4⟩
 ·rintro ⟨h1, h2, h3, h4⟩; exact ⟨h1, h2, h3, h4⟩
theorem erk_iff {l : List En} : erk l l.length ↔ (∀ x ∈ l, enok x = true) ∧ SS l := by
 constructor
 ·rintro ⟨h1, h2⟩
  refine ⟨fun x hx => ?_, ?_⟩
  ·obtain ⟨i, hi⟩ := List.mem_iff_getElem?.1 hx
   have := h1 i (List.getElem?_eq_some_iff.1 hi).1
   rwa [getD_of hi] at this
  ·have key : ∀ (d i : Nat) (hi : i + d + 1 < l.length), enlt (l.getD i en0) (l.getD (i + d + 1) en0) = true := by
    intro d
    induction d with
    | zero => intro i hi; have := h2 (i + 0 + 1) (by omega) hi; rwa [show i + 0 + 1 - 1 = i by omega] at this
    | succ d ih =>
     intro i hi
     have a1 := ih i (by omega)
     have a2 := h2 (i + (d + 1) + 1) (by omega) hi
     rw [show i + (d + 1) + 1 - 1 = i + d + 1 by omega] at a2
     exact enlt_tr a1 a2
   unfold SS
   rw [List.pairwise_iff_getElem]
   intro i j hi hj hij
   have := key (j - i - 1) i (by omega)
   rw [show i + (j - i - 1) + 1 = j by omega, getD_of (List.getElem?_eq_getElem hi), getD_of (List.getElem?_eq_getElem hj)] at this
   exact this
 ·rintro ⟨h1, h2⟩
  refine ⟨fun i hi => ?_, fun i h0 hi => ?_⟩
  ·rw [getD_of (List.getElem?_eq_getElem hi)]
   exact h1 _ (List.getElem_mem hi)
  ·rw [getD_of (List.getElem?_eq_getElem hi), getD_of (List.getElem?_eq_getElem (show i - 1 < l.length by omega))]
   exact List.pairwise_iff_getElem.1 h2 (i - 1) i (by omega) hi (by omega)
theorem enchk_zero {l : List En} : enchk l = 0 ↔ l.length ≤ 4000 ∧ (∀ x ∈ l, enok x = true) ∧ SS l := by
 unfold enchk
 by_cases h4 : 4000 < l.length
 ·rw [if_pos h4]
  simp
  omega
 ·rw [if_neg h4, ← erk_iff]
  by_cases h : erk l l.length
  ·rw [if_pos h]; simp [h]; omega
  ·rw [if_neg h]; simp [h]
theorem hit_key {sess : Bool} {x y : En} (h : y.k = x.k ∧ y.s = x.s ∧ y.e = x.e) : hitE sess x y = true := by unfold hitE; simp [h.1, h.2.1, h.2.2]
theorem putE_ss {sess : Bool} {l : List En} {x : En} (hs : SS l) : SS (putE sess l x).1 ∧ (putE sess l x).1.Perm (withE sess l x).1 := by
 have hm := absorb_meets (hitE sess) l.length l x
 have he := absorb_ended (hitE sess) l.length l x (Nat.le_refl _)
 obtain ⟨ys, _, h5, _⟩ := hm.facts
 refine ⟨?_, ?_⟩
 ·unfold putE
  refine insE_ss (ss_sub hs h5) (fun y hy => dif_of (fun hk => ?_))
  have h9 := he y hy
  rw [hit_key hk] at h9
  cases h9
 ·unfold putE withE
  exact (insE_perm _ _).trans (List.perm_append_singleton _ _).symm
theorem withE_perm {sess : Bool} {l m : List En} {x : En} (hx : enw x) (hl : ∀ y ∈ l, enw y) (hp : l.Perm m) : (withE sess l x).1.Perm (withE sess m x).1 ∧ (withE sess l x).2 = (withE sess m x).2 := by
 obtain ⟨h1, h2, _⟩ := meets_unique hx hl hp (absorb_meets (hitE sess) l.length l x) (absorb_ended (hitE sess) l.length l x (Nat.le_refl _)) (absorb_meets (hitE sess) m.length m x) (absorb_ended (hitE sess) m.length m x (Nat.le_refl _))
 unfold withE
 exact ⟨by rw [h1]; exact h2.append_right _, by rw [h1]⟩
theorem withE_w {sess : Bool} {l : List En} {x : En} (hx : enw x) (hl : ∀ y ∈ l, enw y) : ∀ y ∈ (withE sess l x).1, enw y := fun y hy => by
 have hm := absorb_meets (hitE sess) l.length l x
 have he := absorb_ended (hitE sess) l.length l x (Nat.le_refl _)
 obtain ⟨_, _, h3, _⟩ := hm.ended hx hl he
 obtain ⟨ys, _, h5, _⟩ := hm.facts
 unfold withE at hy
 rcases List.mem_append.1 hy with h | h
 ·exact hl y (h5.subset h)
 ·rw [List.mem_singleton.1 h]; exact h3
/-- All put in, into a sorted list, and into one that is its permutation. -/
theorem fold_same {mk : Int × Int → En} (hmk : ∀ p, p.1 < p.2 → enw (mk p)) : ∀ (ss : List (Int × Int)) (l m : List En) (b : Bool), (∀ p ∈ ss, p.1 < p.2) → SS l → (∀ y ∈ l, enw y) → l.Perm m →
  SS (ss.foldl (fun st p => ((putE false st.1 (mk p)).1, st.2 && (putE false st.1 (mk p)).2)) (l, b)).1 ∧
  (ss.foldl (fun st p => ((putE false st.1 (mk p)).1, st.2 && (putE false st.1 (mk p)).2)) (l, b)).1.Perm (ss.foldl (fun st p => ((withE false st.1 (mk p)).1, st.2 && (withE false st.1 (mk p)).2)) (m, b)).1 ∧
  (ss.foldl (fun st p => ((putE false st.1 (mk p)).1, st.2 && (putE false st.1 (mk p)).2)) (l, b)).2 = (ss.foldl (fun st p => ((withE false st.1 (mk p)).1, st.2 && (withE false st.1 (mk p)).2)) (m, b)).2
 | [], l, m, b, _, hs, _, hp => ⟨hs, hp, rfl⟩
 | p :: ss, l, m, b, h1, hs, hw, hp => by
  have hx := hmk p (h1 p (by simp))
  obtain ⟨a1, a2⟩ := putE_ss (sess := false) (x := mk p) hs
  obtain ⟨b1, b2⟩ := withE_perm (sess := false) hx hw hp
  have e2 : (putE false l (mk p)).2 = (withE false m (mk p)).2 := b2
  simp only [List.foldl_cons]
  rw [e2]
  exact fold_same hmk ss _ _ _ (fun q hq => h1 q (by simp [hq])) a1 (fun y hy => withE_w hx hw y (a2.mem_iff.1 hy)) (a2.trans b1)
/-- What is given, by putting in one by one. -/
theorem givE_put {l : List En} {wk ws we rk rt rv side : Int} (hs : SS l) (hl : ∀ y ∈ l, enw y) (hmk : ∀ p : Int × Int, p.1 < p.2 → enw (recE rk rv side p.1 p.2)) (hsp : wk ≠ 3 → ∀ p ∈ wspans wk ws we rt, p.1 < p.2) :
  givE l wk ws we rk rt rv side = (if wk = 3 then ((putE true l (recE rk rv side rt (rt + ws))).1, (putE true l (recE rk rv side rt (rt + ws))).2 && decide ((putE true l (recE rk rv side rt (rt + ws))).1.length ≤ 4000))
   else ((foldW (putE false) (fun p => recE rk rv side p.1 p.2) (wspans wk ws we rt) l).1, (foldW (putE false) (fun p => recE rk rv side p.1 p.2) (wspans wk ws we rt) l).2 && decide ((foldW (putE false) (fun p => recE rk rv side p.1 p.2) (wspans wk ws we rt) l).1.length ≤ 4000))) := by
 by_cases hk : wk = 3
 ·rw [if_pos hk]
  obtain ⟨a1, a2⟩ := putE_ss (sess := true) (x := recE rk rv side rt (rt + ws)) hs
  unfold givE rawE
  rw [if_pos hk, sortE_eq a2.symm a1, a2.length_eq]
  rfl
 ·rw [if_neg hk]
  obtain ⟨a1, a2, a3⟩ := fold_same hmk (wspans wk ws we rt) l l true (hsp hk) hs hl (List.Perm.refl l)
  unfold givE rawE
  rw [if_neg hk]
  change SS (foldW (putE false) (fun p => recE rk rv side p.1 p.2) (wspans wk ws we rt) l).1 at a1
  change (foldW (putE false) (fun p => recE rk rv side p.1 p.2) (wspans wk ws we rt) l).1.Perm (foldW (withE false) (fun p => recE rk rv side p.1 p.2) (wspans wk ws we rt) l).1 at a2
  change (foldW (putE false) (fun p => recE rk rv side p.1 p.2) (wspans wk ws we rt) l).2 = (foldW (withE false) (fun p => recE rk rv side p.1 p.2) (wspans wk ws we rt) l).2 at a3
  rw [sortE_eq a2.symm a1, ← a2.length_eq, ← a3]
/-- Where one does not fit, all do not. -/
theorem fold_false {f : List En → En → List En × Bool} {mk : Int × Int → En} : ∀ (ss : List (Int × Int)) (l : List En), (ss.foldl (fun st p => ((f st.1 (mk p)).1, st.2 && (f st.1 (mk p)).2)) (l, false)).2 = false
 | [], _ => rfl
 | p :: ss, l => by
  simp only [List.foldl_cons, Bool.false_and]
  exact fold_false ss _
end Go.Proofs.YtnljihjhmgpcoaaGreat
