/- Lemmas and contracts for the statement, joined into one text: Reads, Ints, PaneGcd, GraphPlain. The conditions of each stand at its head. -/
import Derived.Test.YtnljihjhmgpcoaaGreatJ1
import Derived.Laws.OwnMore
import Derived.Deep.AppendLies
import Derived.Deep.Draws
namespace Go.Proofs.YtnljihjhmgpcoaaGreat
open Go.RowKit
/-- The slice whose address is A reads as the list l: element k, of sz cells, lies at 'off + k * sz'. -/
def Rd {α : Type} (enc : α → List Value) (sz : Nat) (w : World) (B : Nat) (A : Option Addr) (l : List α) : Prop :=
 l ≠ [] → ∃ b off, A = some ⟨b, off, none⟩ ∧ b < B ∧ ∀ (k : Nat) (x : α), l[k]? = some x → ∀ (j : Nat) (u : Value), (enc x)[j]? = some u → w.cell? ⟨b, off + k * sz + j, none⟩ = some u
section
variable {α : Type} {enc : α → List Value} {sz : Nat} {w w' : World} {B B' : Nat} {A : Option Addr} {l : List α}
theorem Rd.nil : Rd enc sz w B A ([] : List α) := fun h => absurd rfl h
theorem Rd.at_ (h : Rd enc sz w B A l) {k : Nat} {x : α} (hx : l[k]? = some x) : ∃ b off, A = some ⟨b, off, none⟩ ∧ b < B ∧ ∀ (j : Nat) (u : Value), (enc x)[j]? = some u → w.cell? ⟨b, off + k * sz + j, none⟩ = some u := by
 obtain ⟨b, off, e, hb, hc⟩ := h (by rintro rfl; simp at hx)
 exact ⟨b, off, e, hb, hc k x hx⟩
theorem Rd.keep (h : Rd enc sz w B A l) (hk : ∀ p : Addr, p.block < B → w'.cell? p = w.cell? p) : Rd enc sz w' B A l := fun hn => by
 obtain ⟨b, off, e, hb, hc⟩ := h hn
 exact ⟨b, off, e, hb, fun k x hx j u hu => (hk _ hb).trans (hc k x hx j u hu)⟩
theorem Rd.more (h : Rd enc sz w B A l) (hB : B ≤ B') : Rd enc sz w B' A l := fun hn => by
 obtain ⟨b, off, e, hb, hc⟩ := h hn
 exact ⟨b, off, e, Nat.lt_of_lt_of_le hb hB, hc⟩
theorem Rd.below (h : Rd enc sz w B A l) (hb : Below B w w') : Rd enc sz w' B A l := h.keep fun _ hp => hb.cell hp
theorem Rd.grow (h : Rd enc sz w w.heap.size A l) (hb : Below w.heap.size w w') : Rd enc sz w' w'.heap.size A l := (h.below hb).more hb.size
theorem Rd.drewN (h : Rd enc sz w B A l) (k : Nat) : Rd enc sz (w.drewN k) B A l := h
theorem Rd.drew (h : Rd enc sz w B A l) : Rd enc sz w.drew B A l := h
theorem Rd.alloc (h : Rd enc sz w B A l) (hB : B ≤ w.heap.size) (o : Obj) : Rd enc sz (w.alloc o) B A l := h.below ((Below.refl _ _).alloc hB o)
theorem Rd.setCell (h : Rd enc sz w B A l) {p : Addr} (hB : B ≤ p.block) (u : Value) : Rd enc sz (w.setCell p u) B A l := h.below ((Below.refl _ _).setCell hB u)
/-- A cut s[i:j], as the model makes it. -/
theorem Rd.cut (h : Rd enc sz w B A l) (i j : Nat) {cap : Nat} (hij : i ≤ j) (hj : j ≤ l.length) (hc : l.length ≤ cap) :
  Rd enc sz w B (if cap = i then A else A.map (·.add (i * sz))) ((l.take j).drop i) := fun hn => by
 have hlt : i < j := by
  rcases Nat.lt_or_ge i j with h1 | h1
  ·exact h1
  ·exact absurd (by simp; omega) hn
 obtain ⟨b, off, rfl, hb, hcell⟩ := h (by rintro rfl; simp at hj; omega)
 rw [if_neg (by omega)]
 refine ⟨b, off + i * sz, ?_, hb, fun k x hx m u hu => ?_⟩
 ·simp only [Option.map, Addr.add]; split <;> simp_all
 ·have hx' : l[i + k]? = some x := by
   rw [List.getElem?_drop, List.getElem?_take] at hx
   split at hx
   ·exact hx
   ·cases hx
  have := hcell (i + k) x hx' m u hu
  rw [Nat.add_mul] at this
  rw [show off + i * sz + k * sz + m = off + (i * sz + k * sz) + m from by omega]
  exact this
/-- An element of a flat list of cells. -/
theorem flat_at (henc : ∀ x, (enc x).length = sz) : ∀ (l : List α) (k j : Nat) (x : α) (u : Value), l[k]? = some x → (enc x)[j]? = some u → (l.flatMap enc)[k * sz + j]? = some u
 | [], _, _, _, _, h, _ => by simp at h
 | y :: l, 0, j, x, u, h, hu => by
  simp only [List.getElem?_cons_zero, Option.some.injEq] at h
  subst h
  rw [List.flatMap_cons, Nat.zero_mul, Nat.zero_add, List.getElem?_append_left]
  ·exact hu
  ·exact (List.getElem?_eq_some_iff.1 hu).1
 | y :: l, k + 1, j, x, u, h, hu => by
  simp only [List.getElem?_cons_succ] at h
  rw [List.flatMap_cons, List.getElem?_append_right (by rw [henc, Nat.add_mul]; omega), henc,
   show (k + 1) * sz + j - sz = k * sz + j from by rw [Nat.add_mul]; omega]
  exact flat_at henc l k j x u h hu
theorem flat_length (henc : ∀ x, (enc x).length = sz) (l : List α) : (l.flatMap enc).length = l.length * sz := by
 induction l with
 | nil => simp
 | cons x l ih => rw [List.flatMap_cons, List.length_append, ih, henc, List.length_cons, Nat.add_mul]; omega
end
/-- The slice value v is nil or the call's own (blocks from base on): it holds the list l. -/
def Own {α : Type} (enc : α → List Value) (sz : Nat) (w : World) (base : Nat) (e : TypeId) (v : Value) (l : List α) : Prop := w.ownsRow base e sz v l.length (l.flatMap enc)
section
variable {α : Type} {enc : α → List Value} {sz : Nat} {w w' : World} {base : Nat} {e : TypeId} {v : Value} {l : List α}
theorem Own.nil (w : World) (base : Nat) (e : TypeId) : Own enc sz w base e (.slice none 0 0) ([] : List α) := World.ownsRow_nil _ _ _ _
theorem Own.form (h : Own enc sz w base e v l) : ∃ A c, v = .slice A l.length c ∧ l.length ≤ c ∧ c ≤ maxLen ∧ (∀ ad, A = some ad → ∃ g, ad = ⟨g, 0, none⟩ ∧ base ≤ g ∧ g < w.heap.size) := by
 rcases h.2 with ⟨rfl, h0⟩ | ⟨g, cap, cur, rfl, hb, hg, hnc, hcm, hcs, htake⟩
 ·exact ⟨none, 0, by rw [h0], by omega, by simp [maxLen], fun _ h => by cases h⟩
 ·refine ⟨_, cap, rfl, hnc, hcm, fun ad had => ⟨g, by injection had with had; exact had.symm, hb, ?_⟩⟩
  rcases Nat.lt_or_ge g w.heap.size with hlt | hge
  ·exact hlt
  ·rw [Array.getElem?_eq_none hge] at hg; cases hg
theorem Own.rd {A : Option Addr} {n c : Nat} (henc : ∀ x, (enc x).length = sz) (h : Own enc sz w base e (.slice A n c) l) : Rd enc sz w w.heap.size A l := fun hn => by
 have hl : 0 < l.length := List.length_pos_iff.2 hn
 obtain ⟨g, cap, hv, _, hlt⟩ := World.ownsRow.form h hl
 injection hv with hA hn' hc
 subst hA
 refine ⟨g, 0, rfl, hlt, fun k x hx j u hu => ?_⟩
 have := World.ownsRow.cells h (g := g) rfl (k * sz + j) u (flat_at henc l k j x u hx hu)
 have hadd : (⟨g, 0, none⟩ : Addr).add (k * sz + j) = ⟨g, 0 + k * sz + j, none⟩ := by unfold Addr.add; split <;> simp_all
 rw [hadd] at this
 exact this
theorem Own.grown {row : Option Nat} (h : Own enc sz w base e v l) (hg : w.grownBy w' row) (hne : v.ownBlock = none ∨ v.ownBlock ≠ row) : Own enc sz w' base e v l := World.ownsRow.kept h hg hne
theorem Own.alloc (h : Own enc sz w base e v l) (o : Obj) : Own enc sz (w.alloc o) base e v l := World.ownsRow.alloc h o
theorem Own.below (h : Own enc sz w base e v l) (hb : Below w.heap.size w w') : Own enc sz w' base e v l :=
 World.ownsRow.kept h (row := none) ⟨hb.os, hb.tape, hb.output, hb.size, fun k hk _ => hb.block k hk⟩ (by
  rcases hv : v.ownBlock with _ | k
  ·exact .inl rfl
  ·exact .inr (by simp))
theorem Own.mono {base' : Nat} (h : Own enc sz w base e v l) (hb : base' ≤ base) : Own enc sz w base' e v l := by
 obtain ⟨h1, h2⟩ := h
 refine ⟨h1, ?_⟩
 rcases h2 with h2 | ⟨g, cap, cur, hv, hg, r⟩
 ·exact .inl h2
 ·exact .inr ⟨g, cap, cur, hv, by omega, r⟩
end
def ienc (x : Int) : List Value := [.int .i64 x]
/-- A new block of integers, as a slice that reads. -/
theorem rd_new (w : World) (xs : List Int) (t : TypeId) : Rd ienc 1 (w.alloc (.cells (xs.map (Value.int .i64)).toArray t)) (w.heap.size + 1) (some ⟨w.heap.size, 0, none⟩) xs := fun _ => by
 refine ⟨_, _, rfl, by omega, fun k x hx j u hu => ?_⟩
 rw [World.cell?_alloc_at _ _ _ _ rfl]
 match j, hu with
 | 0, hu => simp [ienc] at hu; subst hu; simp [hx]
theorem gcd_step {p q : Int} (hp : 0 < p) (hq : 0 < q) : Int.gcd q (p % q) = Int.gcd p q := by
 obtain ⟨m, rfl⟩ : ∃ m : Nat, p = m := ⟨p.toNat, by omega⟩
 obtain ⟨n, rfl⟩ : ∃ n : Nat, q = n := ⟨q.toNat, by omega⟩
 have e : ((m : Int) % (n : Int)) = ((m % n : Nat) : Int) := by omega
 rw [e]
 show Nat.gcd n (m % n) = Nat.gcd m n
 rw [Nat.gcd_comm m n, Nat.gcd_rec n m, Nat.gcd_comm]
set_option maxHeartbeats 4000000 in
theorem divisor_any (a b : Int) (w : World) (ha : 0 < a) (hb : 0 ≤ b) (ha2 : a ≤ 1073741824) (hb2 : b ≤ 1073741824) :
  Calls Tryz.prog 35 #[.int .i64 a, .int .i64 b] w fun e w' => e = .returned (.int .i64 (Int.gcd a b)) ∧ Below w.heap.size w w' := by
 obtain ⟨G, hG⟩ : ∃ G : Nat, G = Int.gcd a b := ⟨_, rfl⟩
 rw [← hG]
 go_enter Tryz.func35, Tryz.ntmps35
 go_wp2_with fail
 go_loopw [0, 1] (fun x y wr => ∃ (p q : Int), x = .int .i64 p ∧ y = .int .i64 q ∧ 0 < p ∧ 0 ≤ q ∧ p ≤ 1073741824 ∧ q ≤ 1073741824 ∧ Int.gcd p q = G ∧ Below w.heap.size w wr) (fun _ y _ => (intOf y).toNat)
 case atStart => exact ⟨a, b, rfl, rfl, ha, hb, ha2, hb2, hG.symm, Below.refl _ _⟩
 case round =>
  clear hG
  obtain ⟨p, q, rfl, rfl, h1, h2, h3, h4, h5, hbw⟩ := hrel
  by_cases hq : q = 0
  ·subst hq
   have hp : (p : Int) = (G : Int) := by rw [← h5, Int.gcd_zero_right]; omega
   clear h5
   go_wp2
   go_ret
   exact ⟨ret_i64 hp, hbw⟩
  ·have d1 : (q != 0) = true := by simp [hq]
   have e1 : p.tmod q = p % q := Int.tmod_eq_emod_of_nonneg (by omega)
   have e2 : 0 ≤ p % q := Int.emod_nonneg _ hq
   have e3 : p % q < q := Int.emod_lt_of_pos _ (by omega)
   have e4 : IntKind.i64.wrap (p % q) = p % q := IntWalk.i64_in _ (by omega)
   have hg : Int.gcd q (p % q) = G := by rw [← h5]; exact gcd_step h1 (by omega)
   have HG := Lib.hid hg
   clear h5 hg
   go_wp2_with fail
   go_quiet (fail)
   go_wp2
   go_roundw
   case rel => exact ⟨q, p % q, rfl, rfl, by omega, e2, by omega, by omega, HG.out, below_drewN hbw _⟩
   case measure => simp [intOf]; omega
structure Opn where
 kd : Int
 n : Int
deriving DecidableEq
structure Chn where
 f : Int
 o : Int
 t : Int
 i : Int
 r : Int
deriving DecidableEq
instance : Inhabited Opn := ⟨⟨0, 0⟩⟩
instance : Inhabited Chn := ⟨⟨0, 0, 0, 0, 0⟩⟩
def openc (x : Opn) : List Value := [.int .u8 x.kd, .int .i64 x.n]
def chenc (x : Chn) : List Value := [.int .i64 x.f, .int .i64 x.o, .int .i64 x.t, .int .i64 x.i, .int .i64 x.r]
theorem openc_len (x : Opn) : (openc x).length = 2 := rfl
theorem chenc_len (x : Chn) : (chenc x).length = 5 := rfl
def opR (kd : Int) (m : Nat) : List Opn := (List.range m).map fun (i : Nat) => ⟨kd, i⟩
/-- The operators of the graph of a query with n sources, m parts. -/
def opsG (n m : Nat) (ky jo sd : Bool) : List Opn :=
 opR 1 n ++ opR 2 n ++ (if ky = true then opR 3 n else []) ++ opR (if jo = true then 5 else 4) m ++ opR 6 1 ++ if sd = true then opR 7 1 else []
def splG (n : Nat) (ky : Bool) : Nat := if ky = true then 2 * n else n
def fstG (n : Nat) (ky : Bool) : Nat := if ky = true then 3 * n else 2 * n
def ch1 (n i : Nat) : Chn := ⟨i, 0, (n + i : Nat), 0, 1⟩
def ch2 (n m : Nat) (ky sd : Bool) (i : Nat) : List Chn :=
 (if ky = true then [(⟨(n + i : Nat), 0, (splG n ky + i : Nat), 0, 1⟩ : Chn)] else [⟨(n + i : Nat), 0, (fstG n ky : Nat), i, 1⟩]) ++ if sd = true then [⟨(n + i : Nat), 1, (fstG n ky + m + 1 : Nat), i, 1⟩] else []
def ch3 (n m : Nat) (ky : Bool) (i : Nat) : List Chn := if ky = true then (List.range m).map fun (j : Nat) => ⟨(splG n ky + i : Nat), j, (fstG n ky + j : Nat), i, 1⟩ else []
def ch4 (n m : Nat) (ky : Bool) (j : Nat) : Chn := ⟨(fstG n ky + j : Nat), 0, (fstG n ky + m : Nat), j, 1⟩
def chsG (n m : Nat) (ky sd : Bool) : List Chn :=
 (List.range n).map (ch1 n) ++ (List.range n).flatMap (ch2 n m ky sd) ++ (List.range n).flatMap (ch3 n m ky) ++ (List.range m).map (ch4 n m ky)
def outsG (c : List Chn) (i : Int) : Nat := (c.filter fun x => x.f = i).length
def insG (c : List Chn) (i : Int) : Nat := (c.filter fun x => x.t = i).length
def manyB (kd inn out : Int) : Bool :=
 if kd = 1 then decide (inn = 0) && decide (out = 1) else if kd = 2 then decide (inn = 1) && decide (1 ≤ out ∧ out ≤ 2) else if kd = 3 then decide (inn = 1) && decide (1 ≤ out ∧ out ≤ 3)
 else if kd = 4 then decide (1 ≤ inn ∧ inn ≤ 4) && decide (out = 1) else if kd = 5 then decide (inn = 2) && decide (out = 1) else if kd = 6 then decide (1 ≤ inn ∧ inn ≤ 3) && decide (out = 0)
 else decide (kd = 7) && decide (1 ≤ inn ∧ inn ≤ 4) && decide (out = 0)
/-- One channel more: its end is reached if its start is the one, or is reached. -/
def rchStep (frm : Int) (out : List Bool) (c : Chn) : List Bool := if c.f = frm ∨ out.getD c.f.toNat false = true then out.set c.t.toNat true else out
def rchRound (frm : Int) (c : List Chn) (out : List Bool) : List Bool := c.foldl (rchStep frm) out
def rchN (frm : Int) (c : List Chn) : Nat → List Bool → List Bool
 | 0, out => out
 | n + 1, out => rchN frm c n (rchRound frm c out)
def reachB (ops : List Opn) (c : List Chn) (frm : Int) : List Bool := rchN frm c (ops.length + 1) (List.replicate ops.length false)
def clashB (c d : Chn) : Bool := decide (c.f < d.f) || (decide (d.f = c.f) && decide (c.o ≤ d.o)) || (decide (d.t = c.t) && decide (d.i = c.i))
def apartB (c : List Chn) (i : Nat) : Bool := !(c.take i).any (clashB (c.getD i default))
def rangeB (n : Int) (c : Chn) : Bool := decide (0 ≤ c.f) && decide (0 ≤ c.t) && decide (c.f < n) && decide (c.t < n) && decide (1 ≤ c.r ∧ c.r ≤ 8)
def chanB (c : List Chn) (i : Nat) : Bool := apartB c i && decide (0 ≤ (c.getD i default).o) && decide ((c.getD i default).o < outsG c (c.getD i default).f) && decide (0 ≤ (c.getD i default).i) && decide ((c.getD i default).i < insG c (c.getD i default).t)
def opB (ops : List Opn) (c : List Chn) (i : Nat) : Bool := decide (0 ≤ (ops.getD i default).n ∧ (ops.getD i default).n ≤ 3) && manyB (ops.getD i default).kd (insG c i) (outsG c i) && !(reachB ops c i).getD i false
def validB (ops : List Opn) (c : List Chn) : Bool := c.all (rangeB ops.length) && (List.range c.length).all (chanB c) && (List.range ops.length).all (opB ops c)
/-- The graph of a plan is valid. -/
theorem graph_valid : ∀ n ∈ [1, 2, 3, 4], ∀ m ∈ [1, 2, 3], ∀ (ky jo sd : Bool), (ky = false → m = 1) → (jo = true → n = 2) → validB (opsG n m ky jo sd) (chsG n m ky sd) = true := by
 decide +kernel
theorem ops_src (n m : Nat) (ky jo sd : Bool) : (opsG n m ky jo sd).countP (fun x => decide (x.kd = 1)) = n := by
 have h : ∀ (k : Int) (m : Nat), (opR k m).countP (fun x => decide (x.kd = 1)) = if k = 1 then m else 0 := fun k m => by
  unfold opR
  rw [List.countP_map]
  by_cases hk : k = 1
  ·rw [if_pos hk, List.countP_eq_length.2 (fun x _ => by simp [hk]), List.length_range]
  ·rw [if_neg hk, List.countP_eq_zero.2 (fun x _ => by simp [hk])]
 unfold opsG
 simp only [List.countP_append, h]
 cases ky <;> cases jo <;> cases sd <;> simp [h]
theorem ops_side (n m : Nat) (ky jo sd : Bool) : (opsG n m ky jo sd).any (fun x => decide (x.kd = 7)) = sd := by
 have h : ∀ (k : Int) (m : Nat), (opR k m).any (fun x => decide (x.kd = 7)) = (decide (k = 7) && decide (0 < m)) := fun k m => by
  unfold opR
  rw [Bool.eq_iff_iff, List.any_map, List.any_eq_true]
  simp only [Function.comp, decide_eq_true_eq, Bool.and_eq_true, List.mem_range]
  constructor
  ·rintro ⟨x, hx, hk⟩; exact ⟨hk, by omega⟩
  ·rintro ⟨hk, hm⟩; exact ⟨0, hm, hk⟩
 unfold opsG
 simp only [List.any_append, h]
 cases ky <;> cases jo <;> cases sd <;> simp [h]
end Go.Proofs.YtnljihjhmgpcoaaGreat
