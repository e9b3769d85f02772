/- The lists and answers of StoreNames (chapter 17). Plain, and contracts at them. No condition. -/
import Derived.Test.YtbbdepeifdbbdaaStoreAlive
import Derived.Test.YtbbdepeifdbbdaaStoreTells
namespace Go.Proofs.Ytbbdepeifdbbdaa
open Go.RowKit Go.ChangeShapes Go.WideShapes Go.ChangeAt Go.Deep

def nOne : En := ⟨1, 0, 10, 1, 0, 0, 0, 0, 0, 0, 0⟩
def nX0 : En := ⟨1, 0, 0, 1, 0, 0, 0, 0, 0, 0, 0⟩
def nX1 : En := ⟨1, 0, 10, 0, 0, 0, 0, 0, 0, 0, 0⟩
def nX2 : En := ⟨1, 0, 10, 1, 0, 0, 0, 0, 1, 0, 0⟩
def nX3 : En := ⟨1, 0, 1100585369601, 1, 0, 0, 0, 0, 0, 0, 0⟩
def nX4 : En := ⟨1, -1100585369601, 10, 1, 0, 0, 0, 0, 0, 0, 0⟩
def nX5 : En := ⟨0, 0, 10, 1, 0, 0, 0, 0, 0, 0, 0⟩
def nX7 : En := ⟨1, -5, 10, 1, 0, 0, 0, 0, 0, 0, 0⟩
def nFull : En := ⟨1, 0, 10, 1073741824, 0, 0, 0, 0, 0, 0, 0⟩
def nOth : En := ⟨1, 0, 10, 1073741824, 0, 0, 0, 1, 0, 0, 0⟩
def nLast : En := ⟨-9, -1099511627780, -1099511627770, 0, 0, 0, 0, 1, 0, 0, 0⟩
theorem chk_bad {l : List En} (h : l.length ≤ 4000) (h2 : ¬ ((∀ x ∈ l, enok x = true) ∧ SS l)) : enchk l = 8 := by
  unfold enchk
  rw [if_neg (by omega), if_neg (fun h3 => h2 (erk_iff.1 h3))]
theorem bad_one {x : En} (h : enok x = false) : enchk [x] = 8 := chk_bad (by simp) (fun h2 => by have := h2.1 x (by simp); rw [h] at this; cases this)
theorem bad_two {x y : En} (h : enlt x y = false) : enchk [x, y] = 8 := chk_bad (by simp) (fun h2 => by
  have := h2.2
  unfold SS at this
  simp at this
  rw [h] at this
  cases this)
theorem nb0 : enchk [nX0] = 8 := bad_one (by decide)
theorem nb1 : enchk [nX1] = 8 := bad_one (by decide)
theorem nb2 : enchk [nX2] = 8 := bad_one (by decide)
theorem nb3 : enchk [nX3] = 8 := bad_one (by decide)
theorem nb4 : enchk [nX4] = 8 := bad_one (by decide)
theorem nb5 : enchk [nOne, nX5] = 8 := bad_two (by decide)
theorem nb6 : enchk [nOne, nOne] = 8 := bad_two (by decide)
theorem nb7 : enchk [nOne, nX7] = 8 := bad_two (by decide)
theorem addE_bad {l : List En} (h : enchk l = 8) (wk ws we rk rt rv side : Int) : addE l wk ws we rk rt rv side = ([], 8) := by unfold addE; rw [if_pos (by simp [h]), h]
theorem fireE_bad {l : List En} (h : enchk l = 8) (mark : Int) : fireE l mark = ([], [], 8) := by unfold fireE; rw [if_pos (by simp [h]), h]
theorem nFull_val : ([nFull] : List En).length ≤ 4000 ∧ (∀ x ∈ ([nFull] : List En), enok x = true) ∧ SS [nFull] := ⟨by decide, by decide, by simp [SS]⟩
theorem nOth_val : ([nOth] : List En).length ≤ 4000 ∧ (∀ x ∈ ([nOth] : List En), enok x = true) ∧ SS [nOth] := ⟨by decide, by decide, by simp [SS]⟩
theorem na_a : addE [nFull] 1 10 0 1 3 0 0 = ([], 4) := by
  unfold addE
  rw [if_neg (by simp [enchk_zero.2 nFull_val]), if_neg (by simp [wok]), if_neg (by omega), if_neg (by omega), if_neg (by decide +kernel)]
theorem na_b : addE [nFull] 1 10 0 1 3 0 1 = ([nOth], 0) := addE_lit nFull_val (by unfold wok; decide) (.inr rfl) (by decide) (by decide +kernel)
theorem na_c : addE [] 0 0 0 0 1125899906842624 0 5 = ([], 8) := by
  unfold addE
  rw [if_neg (by simp [enchk_zero.2 val_nil]), if_pos (by simp [wok])]
theorem na_d : addE [] 1 10 0 0 1125899906842624 0 2 = ([], 2) := by
  unfold addE
  rw [if_neg (by simp [enchk_zero.2 val_nil]), if_neg (by simp [wok]), if_pos (by omega)]
theorem na_e : addE [] 1 10 0 0 1099511627777 0 1 = ([], 16) := by
  unfold addE
  rw [if_neg (by simp [enchk_zero.2 val_nil]), if_neg (by simp [wok]), if_neg (by omega), if_pos (by omega)]
theorem na_f : addE [] 1 10 0 0 0 0 (-1) = ([], 2) := by
  unfold addE
  rw [if_neg (by simp [enchk_zero.2 val_nil]), if_neg (by simp [wok]), if_pos (by omega)]
theorem na_g : addE (List.replicate 4001 en0) 1 10 0 0 0 0 0 = ([], 4) := by
  have h : enchk (List.replicate 4001 en0) = 4 := by unfold enchk; rw [if_pos (by rw [List.length_replicate]; omega)]
  unfold addE
  rw [if_pos (by rw [h]; decide), h]
theorem na_h : addE [] 1 10 0 (-9) (-1099511627776) 0 1 = ([nLast], 0) := addE_lit val_nil (by unfold wok; decide) (.inr rfl) (by decide) (by decide +kernel)
theorem nf_i : fireE [nOth] 9223372036854775807 = ([nOth], [], 0) := by
  unfold fireE
  rw [if_neg (by simp [enchk_zero.2 nOth_val])]
  rfl
theorem nf_j : fireE [nOth] (-9223372036854775808) = ([], [nOth], 0) := by
  unfold fireE
  rw [if_neg (by simp [enchk_zero.2 nOth_val])]
  rfl
theorem add_lit17 {l P : List En} {wk ws we rk rt rv side e : Int} (h : addE l wk ws we rk rt rv side = (P, e)) (hwe : (Lit.int .i64 we).wf = true) (A : Option Addr) (c n m : Nat) (W : World) (hn : l.length = n) (hm : P.length = m) (hz : A = none → c = 0) (hs : n ≤ 1099511627776) (hr : Rd enenc 11 W W.heap.size A l) :
    Calls Try.prog 19 #[.slice A n c, .agg #[.int .u8 wk, .int .i64 ws, .int .i64 we], .agg #[.int .i64 rk, .int .i64 rt, .int .i64 rv], .int .i64 side] W fun r w' => ∃ A' c', r = .returned (.tuple #[.slice A' m c', .int .i64 e]) ∧ m ≤ c' ∧ (A' = none → c' = 0) ∧ Rd enenc 11 w' w'.heap.size A' P ∧ Below W.heap.size W w' := by
  refine (add_any A c n l wk ws we rk rt rv side hwe W hn hz hs hr).mono ?_
  rintro r w' ⟨v, rfl, own, hb⟩
  rw [h] at own ⊢
  obtain ⟨A', c', rfl, h1, h2⟩ := own_shape_z own hm
  exact ⟨A', c', rfl, h1, h2, Own.rd enenc_len own, hb⟩
theorem fire_lit17 {l P Q : List En} {mark e : Int} (h : fireE l mark = (P, Q, e)) (A : Option Addr) (c n m p : Nat) (W : World) (hn : l.length = n) (hm : P.length = m) (hp : Q.length = p) (hs : n ≤ 1099511627776) (hr : Rd enenc 11 W W.heap.size A l) :
    Calls Try.prog 22 #[.slice A n c, .int .i64 mark] W fun r w' => ∃ A1 c1 A2 c2, r = .returned (.tuple #[.slice A1 m c1, .slice A2 p c2, .int .i64 e]) ∧ Below W.heap.size W w' := by
  refine (fire_any A c n l mark W hn hs hr).mono ?_
  rintro r w' ⟨v1, v2, rfl, o1, o2, -, hb⟩
  rw [h] at o1 o2 ⊢
  obtain ⟨A1, c1, rfl, -⟩ := own_shape_z o1 hm
  obtain ⟨A2, c2, rfl, -⟩ := own_shape_z o2 hp
  exact ⟨A1, c1, A2, c2, rfl, hb⟩
theorem chk_lit17 {l : List En} {e : Int} (h : enchk l = e) (A : Option Addr) (c n : Nat) (W : World) (hn : l.length = n) (hs : n ≤ 1099511627776) (hr : Rd enenc 11 W W.heap.size A l) :
    Calls Try.prog 43 #[.slice A n c] W fun r w' => r = .returned (.int .i64 e) ∧ Below W.heap.size W w' := by
  have := storecheck_any A c n l W hn hs hr
  rwa [h] at this
theorem rd_loc {α : Type} {enc : α → List Value} {sz : Nat} (henc : ∀ x, (enc x).length = sz) {W : World} {g : Nat} {l : List α} {L : List (Nat × List Value)} (h : Loc W ((g, l.flatMap enc) :: L)) : Rd enc sz W W.heap.size (some ⟨g, 0, none⟩) l := fun _ => by
  obtain ⟨h1, h2, _, _⟩ := h
  refine ⟨g, 0, rfl, h1, fun k x hx j u hu => ?_⟩
  rw [h2]
  have := flat_at henc l k j x u hx hu
  simpa using this
theorem own_loc {α : Type} {enc : α → List Value} {sz : Nat} {w : World} {base : Nat} {e : TypeId} {g n cap : Nat} {l : List α} (h : Own enc sz w base e (.slice (some ⟨g, 0, none⟩) n cap) l) : ∃ rest, Loc w [(g, l.flatMap enc ++ rest)] := by
  obtain ⟨A0, c0, hv, -⟩ := h.form
  injection hv with _ hv _
  subst hv
  have h0 := h
  rcases h.2 with ⟨h', _⟩ | ⟨g', cap', cur, h', hb, hg, hnc, hcm, hcs, htake⟩
  · cases h'
  · injection h' with h1 _ _
    injection h1 with h1
    injection h1 with h1
    subst h1
    refine ⟨cur.toList.drop (l.length * sz), ?_, fun i => ?_, fun i => ?_, trivial⟩
    · rcases Nat.lt_or_ge g w.heap.size with hlt | hge
      · exact hlt
      · rw [Array.getElem?_eq_none hge] at hg; cases hg
    · rw [← htake, List.take_append_drop]
      simp [World.cell?, hg]
    · exact World.ownsRow.frozenAt h0 _
theorem rd_locR {α : Type} {enc : α → List Value} {sz : Nat} (henc : ∀ x, (enc x).length = sz) {W : World} {g : Nat} {l : List α} {rest : List Value} {L : List (Nat × List Value)} (h : Loc W ((g, l.flatMap enc ++ rest) :: L)) : Rd enc sz W W.heap.size (some ⟨g, 0, none⟩) l := fun _ => by
  obtain ⟨h1, h2, _, _⟩ := h
  refine ⟨g, 0, rfl, h1, fun k x hx j u hu => ?_⟩
  rw [h2]
  have := flat_at henc l k j x u hx hu
  have hlt := (List.getElem?_eq_some_iff.1 this).1
  rw [Nat.zero_add, List.getElem?_append_left hlt]
  exact this
theorem rd_made0 (W : World) (t : TypeId) (n : Nat) : Rd enenc 11 (W.alloc (.cells (madeCells #[.int .i64 0, .int .i64 0, .int .i64 0, .int .i64 0, .int .i64 0, .int .i64 0, .int .i64 0, .int .i64 0, .int .i64 0, .int .i64 0, .int .i64 0] (n * 11)) t)) (W.heap.size + 1) (some ⟨W.heap.size, 0, none⟩) (List.replicate n en0) := fun _ => by
  refine ⟨W.heap.size, 0, rfl, by omega, fun k x hx j u hu => ?_⟩
  have hk : k < n := by
    have := (List.getElem?_eq_some_iff.1 hx).1
    simpa using this
  have hx0 : x = en0 := by
    rw [List.getElem?_replicate, if_pos hk] at hx
    exact (Option.some.inj hx).symm
  subst hx0
  have hj : j < 11 := by
    have := (List.getElem?_eq_some_iff.1 hu).1
    simpa [enenc] using this
  have hu0 : u = .int .i64 0 := by
    have h11 := List.mem_of_getElem? hu
    simpa [enenc, en0] using h11
  subst hu0
  rw [World.cell?_alloc_at _ _ _ _ rfl]
  have hlt : 0 + k * 11 + j < n * 11 := by
    have := Nat.mul_le_mul_right 11 (show k + 1 ≤ n by omega)
    rw [Nat.add_mul] at this
    omega
  have hz : ∀ i : Nat, i < 11 → (#[.int .i64 0, .int .i64 0, .int .i64 0, .int .i64 0, .int .i64 0, .int .i64 0, .int .i64 0, .int .i64 0, .int .i64 0, .int .i64 0, .int .i64 0] : Array Value)[i]! = .int .i64 0 := by
    intro i hi
    rcases (show i = 0 ∨ i = 1 ∨ i = 2 ∨ i = 3 ∨ i = 4 ∨ i = 5 ∨ i = 6 ∨ i = 7 ∨ i = 8 ∨ i = 9 ∨ i = 10 by omega) with rfl | rfl | rfl | rfl | rfl | rfl | rfl | rfl | rfl | rfl | rfl <;> rfl
  unfold madeCells
  rw [Array.getElem?_map, Array.getElem?_range, if_pos hlt]
  show some _ = some _
  congr 1
  exact hz _ (Nat.mod_lt _ (by decide))
end Go.Proofs.Ytbbdepeifdbbdaa
