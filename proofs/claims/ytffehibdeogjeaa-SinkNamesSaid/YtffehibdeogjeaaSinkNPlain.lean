/- What sink.Take gives at the law's tasks (chapter 34), printed by wip/gen_sinknplain.py. No condition. -/
import Derived.Test.YtffehibdeogjeaaSinkSt
import Derived.Test.YtffehibdeogjeaaSinkSorts
namespace Go.Proofs.Ytffehibdeogjeaa
open Go.RowKit

/-- Some task, and an error. -/
def TkE (e : Int) (w : World) (r : Ending) (w' : World) : Prop := ∃ (P M S E R L : Option Addr) (cp cm cs ce cr cl : Nat), r = .returned (.tuple #[.agg #[.int .u8 0, .int .i64 0, .int .i64 0, .slice P 0 cp, .slice M 0 cm, .slice S 0 cs, .slice E 0 ce, .slice R 0 cr, .slice L 0 cl], .int .i64 e]) ∧ Below w.heap.size w w'
theorem tke_of {e : Int} {w w' : World} {r : Ending} (h : TakeQ tk0 e w r w') : TkE e w r w' := by
  obtain ⟨p, rfl, -, -, hb, -, -⟩ := h
  obtain ⟨P, cp, M, cm, S, cs, E, ce, R, cr, L, cl⟩ := p
  exact ⟨P, M, S, E, R, L, cp, cm, cs, ce, cr, cl, rfl, hb⟩
theorem take_lit (kd : Int) (m : Ms) (W : World) : Calls Try.prog 41 #[.agg #[.int .u8 kd, .int .i64 0, .int .i64 0, .slice none 0 0, .slice none 0 0, .slice none 0 0, .slice none 0 0, .slice none 0 0, .slice none 0 0], .agg #[.int .u8 m.kind, .int .i64 m.k, .int .i64 m.t, .int .i64 m.v, .int .i64 m.time, .int .i64 m.rk, .int .i64 m.rs, .int .i64 m.re, .int .i64 m.ra, .int .i64 m.rb]] W (TakeQ (takeP ⟨kd, 0, 0, [], [], [], [], [], []⟩ m).1 (takeP ⟨kd, 0, 0, [], [], [], [], [], []⟩ m).2 W) :=
  sinktake_any kd 0 0 [] [] [] [] [] [] none none none none none none 0 0 0 0 0 0 0 0 0 0 0 0 m W rfl rfl rfl rfl rfl rfl (by omega) (by omega) (by omega) (by omega) (by omega) (by omega) (fun _ => rfl) (fun _ => rfl) (fun _ => rfl) (fun _ => rfl) (fun _ => rfl) (fun _ => rfl) Rd.nil Rd.nil Rd.nil Rd.nil Rd.nil Rd.nil
theorem tp0 (m : Ms) : takeP ⟨0, 0, 0, [], [], [], [], [], []⟩ m = (tk0, 8) := by
  unfold takeP
  rw [if_pos]
  unfold tkok kept
  simp
theorem tk3_ok : tkok ⟨3, 0, 0, [], [], [], [], [], []⟩ = true := by
  unfold tkok kept lone
  simp only [enchk_nil]
  simp
theorem tp3 (m : Ms) : takeP ⟨3, 0, 0, [], [], [], [], [], []⟩ m = (tk0, 2) := by
  unfold takeP
  rw [if_neg (by rw [tk3_ok]; simp), if_neg (by simp), if_neg (by simp)]
theorem tp6 (m : Ms) : takeP ⟨6, 0, 0, [], [], [], [], [], []⟩ m = if isRow m = true then (tk6 [mrow m], 0) else (tk0, 8) := take6 (W := []) m (fun _ h => by cases h) (by simp)
theorem tp7 (m : Ms) : takeP ⟨7, 0, 0, [], [], [], [], [], []⟩ m = if msok m = true ∧ m.kind = 4 then (tk7 [mrec m], 0) else (tk0, 8) := by
  have h : tkok ⟨7, 0, 0, [], [], [], [], [], []⟩ = true := tk7_ok (W := []) (fun _ h => by cases h) (by simp)
  unfold takeP
  rw [if_neg (by rw [h]; simp), if_pos (by simp)]
  by_cases h1 : msok m = true ∧ m.kind = 4
  · rw [if_pos h1, if_neg (by simp), if_pos h1]
    rfl
  · rw [if_neg h1, if_neg h1]
def n4k : List Rw := List.replicate 4000 ⟨0, 0, 10, 0, 0⟩
theorem n4k_len : n4k.length = 4000 := List.length_replicate
theorem tpF : takeP ⟨6, 0, 0, [], [], [], [], n4k, []⟩ ⟨3, 0, 0, 0, 0, 0, 0, 10, 0, 0⟩ = (tk0, 4) := by
  have h : tkok ⟨6, 0, 0, [], [], [], [], n4k, []⟩ = true := tk6_ok (W := n4k) (fun x hx => by rw [List.eq_of_mem_replicate hx]; decide) (by rw [n4k_len]; omega)
  unfold takeP
  rw [if_neg (by rw [h]; simp), if_neg (by simp), if_pos rfl, if_pos ⟨by decide, rfl⟩, if_pos (by rw [n4k_len]; omega)]
theorem tkA (W : World) : Calls Try.prog 41 #[.agg #[.int .u8 0, .int .i64 0, .int .i64 0, .slice none 0 0, .slice none 0 0, .slice none 0 0, .slice none 0 0, .slice none 0 0, .slice none 0 0], .agg #[.int .u8 3, .int .i64 0, .int .i64 0, .int .i64 0, .int .i64 0, .int .i64 0, .int .i64 0, .int .i64 10, .int .i64 0, .int .i64 0]] W (TkE 8 W) := by
  have h := take_lit 0 ⟨3, 0, 0, 0, 0, 0, 0, 10, 0, 0⟩ W
  rw [show takeP ⟨0, 0, 0, [], [], [], [], [], []⟩ ⟨3, 0, 0, 0, 0, 0, 0, 10, 0, 0⟩ = (tk0, 8) from tp0 _] at h
  exact h.mono (fun _ _ => tke_of)
theorem tkB (W : World) : Calls Try.prog 41 #[.agg #[.int .u8 3, .int .i64 0, .int .i64 0, .slice none 0 0, .slice none 0 0, .slice none 0 0, .slice none 0 0, .slice none 0 0, .slice none 0 0], .agg #[.int .u8 3, .int .i64 0, .int .i64 0, .int .i64 0, .int .i64 0, .int .i64 0, .int .i64 0, .int .i64 10, .int .i64 0, .int .i64 0]] W (TkE 2 W) := by
  have h := take_lit 3 ⟨3, 0, 0, 0, 0, 0, 0, 10, 0, 0⟩ W
  rw [show takeP ⟨3, 0, 0, [], [], [], [], [], []⟩ ⟨3, 0, 0, 0, 0, 0, 0, 10, 0, 0⟩ = (tk0, 2) from tp3 _] at h
  exact h.mono (fun _ _ => tke_of)
theorem tkC (W : World) : Calls Try.prog 41 #[.agg #[.int .u8 6, .int .i64 0, .int .i64 0, .slice none 0 0, .slice none 0 0, .slice none 0 0, .slice none 0 0, .slice none 0 0, .slice none 0 0], .agg #[.int .u8 4, .int .i64 1, .int .i64 0, .int .i64 0, .int .i64 0, .int .i64 0, .int .i64 0, .int .i64 0, .int .i64 0, .int .i64 0]] W (TkE 8 W) := by
  have h := take_lit 6 ⟨4, 1, 0, 0, 0, 0, 0, 0, 0, 0⟩ W
  rw [show takeP ⟨6, 0, 0, [], [], [], [], [], []⟩ ⟨4, 1, 0, 0, 0, 0, 0, 0, 0, 0⟩ = (tk0, 8) from by rw [tp6, if_neg (by decide)]] at h
  exact h.mono (fun _ _ => tke_of)
theorem tkD (W : World) : Calls Try.prog 41 #[.agg #[.int .u8 7, .int .i64 0, .int .i64 0, .slice none 0 0, .slice none 0 0, .slice none 0 0, .slice none 0 0, .slice none 0 0, .slice none 0 0], .agg #[.int .u8 3, .int .i64 0, .int .i64 0, .int .i64 0, .int .i64 0, .int .i64 0, .int .i64 0, .int .i64 10, .int .i64 0, .int .i64 0]] W (TkE 8 W) := by
  have h := take_lit 7 ⟨3, 0, 0, 0, 0, 0, 0, 10, 0, 0⟩ W
  rw [show takeP ⟨7, 0, 0, [], [], [], [], [], []⟩ ⟨3, 0, 0, 0, 0, 0, 0, 10, 0, 0⟩ = (tk0, 8) from by rw [tp7, if_neg (by decide)]] at h
  exact h.mono (fun _ _ => tke_of)
theorem tkEE (W : World) : Calls Try.prog 41 #[.agg #[.int .u8 6, .int .i64 0, .int .i64 0, .slice none 0 0, .slice none 0 0, .slice none 0 0, .slice none 0 0, .slice none 0 0, .slice none 0 0], .agg #[.int .u8 2, .int .i64 0, .int .i64 0, .int .i64 0, .int .i64 0, .int .i64 0, .int .i64 0, .int .i64 0, .int .i64 0, .int .i64 0]] W (TkE 8 W) := by
  have h := take_lit 6 ⟨2, 0, 0, 0, 0, 0, 0, 0, 0, 0⟩ W
  rw [show takeP ⟨6, 0, 0, [], [], [], [], [], []⟩ ⟨2, 0, 0, 0, 0, 0, 0, 0, 0, 0⟩ = (tk0, 8) from by rw [tp6, if_neg (by decide)]] at h
  exact h.mono (fun _ _ => tke_of)
theorem tkF (W : World) : Calls Try.prog 41 #[.agg #[.int .u8 6, .int .i64 0, .int .i64 0, .slice none 0 0, .slice none 0 0, .slice none 0 0, .slice none 0 0, .slice none 0 0, .slice none 0 0], .agg #[.int .u8 3, .int .i64 0, .int .i64 0, .int .i64 0, .int .i64 0, .int .i64 0, .int .i64 0, .int .i64 0, .int .i64 0, .int .i64 0]] W (TkE 8 W) := by
  have h := take_lit 6 ⟨3, 0, 0, 0, 0, 0, 0, 0, 0, 0⟩ W
  rw [show takeP ⟨6, 0, 0, [], [], [], [], [], []⟩ ⟨3, 0, 0, 0, 0, 0, 0, 0, 0, 0⟩ = (tk0, 8) from by rw [tp6, if_neg (by decide)]] at h
  exact h.mono (fun _ _ => tke_of)
theorem tkG (W : World) : Calls Try.prog 41 #[.agg #[.int .u8 6, .int .i64 0, .int .i64 0, .slice none 0 0, .slice none 0 0, .slice none 0 0, .slice none 0 0, .slice none 0 0, .slice none 0 0], .agg #[.int .u8 3, .int .i64 0, .int .i64 0, .int .i64 0, .int .i64 0, .int .i64 0, .int .i64 0, .int .i64 10, .int .i64 0, .int .i64 0]] W (Take6 6 [⟨0, 0, 10, 0, 0⟩] 1 0 W) :=
  take6_yes (X := []) (nx := 0) (m := ⟨3, 0, 0, 0, 0, 0, 0, 10, 0, 0⟩) (fun _ h => by cases h) rfl (by omega) (by decide) ⟨fun _ => rfl, fun _ => rfl, fun _ => rfl, fun _ => rfl, fun _ => rfl, fun _ => rfl⟩ W Rd.nil
/-- A task that has late records alone, as a result. -/
def Take7 (kd : Int) (X : List Rc) (nx : Nat) (e : Int) (w : World) (r : Ending) (w' : World) : Prop :=
  ∃ (P M S E R L : Option Addr) (cp cm cs ce cr cl : Nat), r = .returned (.tuple #[.agg #[.int .u8 kd, .int .i64 0, .int .i64 0, .slice P 0 cp, .slice M 0 cm, .slice S 0 cs, .slice E 0 ce, .slice R 0 cr, .slice L nx cl], .int .i64 e]) ∧ Rd renc 3 w' w'.heap.size L X ∧ (∀ ad, L = some ad → w.heap.size ≤ ad.block) ∧ Below w.heap.size w w'
theorem tkH (W : World) : Calls Try.prog 41 #[.agg #[.int .u8 7, .int .i64 0, .int .i64 0, .slice none 0 0, .slice none 0 0, .slice none 0 0, .slice none 0 0, .slice none 0 0, .slice none 0 0], .agg #[.int .u8 4, .int .i64 1, .int .i64 0, .int .i64 0, .int .i64 0, .int .i64 0, .int .i64 0, .int .i64 0, .int .i64 0, .int .i64 0]] W (Take7 7 [⟨1, 0, 0⟩] 1 0 W) := by
  have h := take_lit 7 ⟨4, 1, 0, 0, 0, 0, 0, 0, 0, 0⟩ W
  rw [show takeP ⟨7, 0, 0, [], [], [], [], [], []⟩ ⟨4, 1, 0, 0, 0, 0, 0, 0, 0, 0⟩ = (tk7 [⟨1, 0, 0⟩], 0) from by rw [tp7, if_pos ⟨by decide, rfl⟩]; rfl] at h
  refine h.mono ?_
  rintro r w' ⟨⟨P, cp, M, cm, S, cs, E, ce, R, cr, L, cl⟩, rfl, hrt, -, hb, -, hf⟩
  exact ⟨P, M, S, E, R, L, cp, cm, cs, ce, cr, cl, rfl, hrt.2.2.2.2.2, hf, hb⟩
theorem tkFull (R : Option Addr) (cr : Nat) (W : World) (hz : R = none → cr = 0) (hr : Rd wenc 5 W W.heap.size R n4k) : Calls Try.prog 41 #[.agg #[.int .u8 6, .int .i64 0, .int .i64 0, .slice none 0 0, .slice none 0 0, .slice none 0 0, .slice none 0 0, .slice R 4000 cr, .slice none 0 0], .agg #[.int .u8 3, .int .i64 0, .int .i64 0, .int .i64 0, .int .i64 0, .int .i64 0, .int .i64 0, .int .i64 10, .int .i64 0, .int .i64 0]] W (TkE 4 W) := by
  have h := sinktake_any 6 0 0 [] [] [] [] n4k [] none none none none R none 0 0 0 0 cr 0 0 0 0 0 4000 0 ⟨3, 0, 0, 0, 0, 0, 0, 10, 0, 0⟩ W rfl rfl rfl rfl n4k_len rfl (by omega) (by omega) (by omega) (by omega) (by omega) (by omega) (fun _ => rfl) (fun _ => rfl) (fun _ => rfl) (fun _ => rfl) hz (fun _ => rfl) Rd.nil Rd.nil Rd.nil Rd.nil hr Rd.nil
  rw [tpF] at h
  exact h.mono (fun _ _ => tke_of)
/-- A sink of late records behind a message, in a box of its own. -/
def TkS (kd : Int) (X : List Rc) (nx : Nat) (e : Int) (W : World) (v8 v9 : Value) (W' : World) : Prop :=
  ∃ (c : Nat) (P M S E R L : Option Addr) (cp cm cs ce cr cl : Nat), v8 = .pointer (some ⟨c, 0, none⟩) ∧ v9 = .int .i64 e ∧ W.heap.size ≤ c ∧ Loc W' [(c, [.int .u8 kd, .int .i64 0, .int .i64 0, .slice P 0 cp, .slice M 0 cm, .slice S 0 cs, .slice E 0 ce, .slice R 0 cr, .slice L nx cl])] ∧
    Rd renc 3 W' W'.heap.size L X ∧ Below W.heap.size W W'
theorem tks_late {kd : Int} {X : List Rc} {nx : Nat} {e : Int} {W W0 W1 : World} {P M S E R L : Option Addr} {cp cm cs ce cr cl : Nat} (hb0 : Below W.heap.size W W0) (hb1 : Below W0.heap.size W0 W1) (hr : Rd renc 3 W1 W1.heap.size L X) :
    TkS kd X nx e W (.pointer (some ⟨W1.heap.size, 0, none⟩)) (.int .i64 e) (W1.alloc (.cells #[.int .u8 kd, .int .i64 0, .int .i64 0, .slice P 0 cp, .slice M 0 cm, .slice S 0 cs, .slice E 0 ce, .slice R 0 cr, .slice L nx cl] 67)) := by
  have hb := below_then hb0 hb1
  refine ⟨_, P, M, S, E, R, L, cp, cm, cs, ce, cr, cl, rfl, rfl, hb.size, (Loc.nil W1).new [.int .u8 kd, .int .i64 0, .int .i64 0, .slice P 0 cp, .slice M 0 cm, .slice S 0 cs, .slice E 0 ce, .slice R 0 cr, .slice L nx cl] 67, rd_grown hr (below_new (Below.refl _ _) _), below_new hb _⟩
theorem tks_first {kd : Int} {X : List Rc} {nx : Nat} {e : Int} {W W0 W1 : World} {c : Nat} {v0 v1 v2 v3 v4 v5 v6 v7 v8 : Value} {P M S E R L : Option Addr} {cp cm cs ce cr cl : Nat} (hb0 : Below W.heap.size W W0) (hl0 : Loc W0 [(c, [v0, v1, v2, v3, v4, v5, v6, v7, v8])]) (hc : W.heap.size ≤ c) (hb1 : Below W0.heap.size W0 W1) (hr : Rd renc 3 W1 W1.heap.size L X) (hf : ∀ ad, L = some ad → W0.heap.size ≤ ad.block) :
    TkS kd X nx e W (.pointer (some ⟨c, 0, none⟩)) (.int .i64 e) (put9 W1 c (.int .u8 kd) (.int .i64 0) (.int .i64 0) (.slice P 0 cp) (.slice M 0 cm) (.slice S 0 cs) (.slice E 0 ce) (.slice R 0 cr) (.slice L nx cl)) := by
  have hb := below_then hb0 hb1
  have hl1 := hl0.below hb1
  have hc0 : c < W0.heap.size := hl0.1
  exact ⟨_, P, M, S, E, R, L, cp, cm, cs, ce, cr, cl, rfl, rfl, hc, put9_loc hl1 (by simp) _ _ _ _ _ _ _ _ _, rd_put9 hr (fun ad h => Nat.lt_of_lt_of_le hc0 (hf ad h)) _ _ _ _ _ _ _ _ _, put9_below hb hc _ _ _ _ _ _ _ _ _⟩
/-- A task that is not looked at again, in a box. -/
theorem tke_box {W W0 W1 : World} {o : Obj} (hb0 : Below W.heap.size W W0) (hb1 : Below W0.heap.size W0 W1) : Below W.heap.size W (W1.alloc o) := below_new (below_then hb0 hb1) _
theorem tke_put {W W0 W1 : World} {c : Nat} {v0 v1 v2 v3 v4 v5 v6 v7 v8 : Value} (hb0 : Below W.heap.size W W0) (hb1 : Below W0.heap.size W0 W1) (hc : W.heap.size ≤ c) : Below W.heap.size W (put9 W1 c v0 v1 v2 v3 v4 v5 v6 v7 v8) := put9_below (below_then hb0 hb1) hc _ _ _ _ _ _ _ _ _
/-- Zero rows and records that were made. -/
theorem rd_zero {α : Type} {enc : α → List Value} {sz : Nat} (z : α) (zs : Array Value) (hz : zs.toList = enc z) (hs : (enc z).length = sz) (w : World) (e : TypeId) (n : Nat) : Rd enc sz (w.alloc (.cells (madeCells zs (n * sz)) e)) (w.heap.size + 1) (some ⟨w.heap.size, 0, none⟩) (List.replicate n z) := by
  intro _
  refine ⟨w.heap.size, 0, rfl, by omega, fun k x hx j u hu => ?_⟩
  obtain ⟨hk, he⟩ := List.getElem?_eq_some_iff.1 hx
  rw [List.length_replicate] at hk
  rw [List.getElem_replicate] at he
  subst he
  have hj : j < sz := by rw [← hs]; exact (List.getElem?_eq_some_iff.1 hu).1
  rw [World.cell?_alloc_at _ _ _ _ rfl]
  have hlt : 0 + k * sz + j < n * sz := by
    have := Nat.mul_le_mul_right sz (show k + 1 ≤ n by omega)
    rw [Nat.add_mul] at this
    omega
  have hzz : zs.size = sz := by rw [← hs, ← hz]; simp
  unfold madeCells
  rw [Array.getElem?_map, Array.getElem?_range, if_pos hlt]
  show some _ = some _
  congr 1
  dsimp only
  have hm : (0 + k * sz + j) % zs.size = j := by rw [hzz, Nat.zero_add, Nat.add_comm, Nat.add_mul_mod_self_right, Nat.mod_eq_of_lt hj]
  rw [hm]
  have : zs[j]? = some u := by rw [← Array.getElem?_toList, hz]; exact hu
  rw [getElem!_pos zs j (by omega)]
  rw [Array.getElem?_eq_getElem (by omega)] at this
  exact Option.some.inj this
def z5 : Rw := ⟨0, 0, 0, 0, 0⟩
def z3 : Rc := ⟨0, 0, 0⟩
theorem make_rows (z : Int) (n : Nat) (hz : z = (n : Int)) (hn : n ≤ 5000) : ∃ M : Array Value, (∀ W : World, (Instr.makeSlice 64 (.int .i64 z) (.int .i64 z)).run Try.prog W = .ok (.slice (some ⟨W.heap.size, 0, none⟩) n n) (W.alloc (.cells M 72))) ∧
    ∀ W : World, Rd wenc 5 (W.alloc (.cells M 72)) (W.heap.size + 1) (some ⟨W.heap.size, 0, none⟩) (List.replicate n z5) := by
  obtain ⟨i0, hi0, hz0, hz1, hz2⟩ := info_parts w_info
  refine ⟨_, fun W => ?_, fun W => rd_zero z5 #[.int .i64 0, .int .i64 0, .int .i64 0, .int .i64 0, .int .i64 0] rfl rfl W _ n⟩
  have hmk := run_make (P := Try.prog) W 64 72 i0 (.agg #[.int .i64 0, .int .i64 0, .int .i64 0, .int .i64 0, .int .i64 0]) Try.underlying64 hi0 hz0 .i64 .i64 z z (by omega) (by omega) (by rw [hz2]; omega) (by omega)
  rw [hz1] at hmk
  subst hz
  exact hmk
theorem make_recs34 (z : Int) (n : Nat) (hz : z = (n : Int)) (hn : n ≤ 5000) : ∃ M : Array Value, (∀ W : World, (Instr.makeSlice 65 (.int .i64 z) (.int .i64 z)).run Try.prog W = .ok (.slice (some ⟨W.heap.size, 0, none⟩) n n) (W.alloc (.cells M 69))) ∧
    ∀ W : World, Rd renc 3 (W.alloc (.cells M 69)) (W.heap.size + 1) (some ⟨W.heap.size, 0, none⟩) (List.replicate n z3) := by
  obtain ⟨i0, hi0, hz0, hz1, hz2⟩ := info_parts r_info
  refine ⟨_, fun W => ?_, fun W => rd_zero z3 #[.int .i64 0, .int .i64 0, .int .i64 0] rfl rfl W _ n⟩
  have hmk := run_make (P := Try.prog) W 65 69 i0 (.agg #[.int .i64 0, .int .i64 0, .int .i64 0]) Try.underlying65 hi0 hz0 .i64 .i64 z z (by omega) (by omega) (by rw [hz2]; omega) (by omega)
  rw [hz1] at hmk
  subst hz
  exact hmk
end Go.Proofs.Ytffehibdeogjeaa
