/- The contract of the reference's Given (chapter 17). Condition: a store in order, with counts that stay small; a valid window, a time within bounds, a side. -/
import Derived.Test.YtbbdepeifdbbdaaStoreGiven
import Derived.Test.YtbbdepeifdbbdaaKitB
import Derived.Test.YtbbdepeifdbbdaaKitG
namespace Go.Proofs.Ytbbdepeifdbbdaa
open Go.RowKit

def GivenP (l : List En) (wk ws we rk rt rv side : Int) (w : World) (r : Ending) (w' : World) : Prop :=
  ∃ v, r = .returned (.tuple #[v, .bool (givE l wk ws we rk rt rv side).2]) ∧ Own enenc 11 w' w.heap.size 43 v (givE l wk ws we rk rt rv side).1 ∧ Below w.heap.size w w'
theorem own_noneZ {α : Type} {enc : α → List Value} {sz : Nat} {w : World} {base : Nat} {e : TypeId} {A : Option Addr} {n c : Nat} {l : List α} (h : Own enc sz w base e (.slice A n c) l) : A = none → c = 0 := by
  rcases h.2 with ⟨h', h0⟩ | ⟨g, cap, cur, h', _⟩
  · intro _; injection h' with _ _ h3
  · intro hA; injection h' with h1 _ _; rw [hA] at h1; cases h1
/-- With at a list whose counts are small. -/
theorem withS_any (sess : Bool) (A : Option Addr) (c n : Nat) (l : List En) (x : En) (w : World) (hln : l.length = n) (hz : A = none → c = 0) (hn : n ≤ 1099511627776) (hr : Rd enenc 11 w w.heap.size A l)
    (hx : enw x) (hl : ∀ y ∈ l, enw y) (hfx : fitE x = true) (ht : tot1 l ≤ 2305843009213692928 ∧ tot2 l ≤ 2305843009213692928) (hc : x.c1 ≤ 1 ∧ x.c2 ≤ 1) :
    Calls Try.prog 96 #[.slice A n c, .agg #[.int .i64 x.k, .int .i64 x.s, .int .i64 x.e, .int .i64 x.c1, .int .i64 x.s1, .int .i64 x.m1, .int .i64 x.x1, .int .i64 x.c2, .int .i64 x.s2, .int .i64 x.m2, .int .i64 x.x2], .bool sess] w (WithP sess l x w) :=
  withR_any A c n l x sess w hln hz hn hr hx hl hfx (fun l1 x1 h => by have := meets_le hx hl h; omega) (fun y hy => by have := tot_mem hl hy; omega)

set_option maxHeartbeats 16000000 in
set_option maxRecDepth 100000 in
theorem givenS0 (A : Option Addr) (c n : Nat) (l : List En) (ws we rk rt rv : Int) (w : World) (hrv : (Lit.int .i64 rv).wf = true) (hln : l.length = n) (hz : A = none → c = 0) (hn : n ≤ 1099511627770) (hr : Rd enenc 11 w w.heap.size A l)
    (hss : SS l) (hl : ∀ y ∈ l, enw y) (ht : tot1 l ≤ 2305843009213690000 ∧ tot2 l ≤ 2305843009213690000) (hwok : wok 3 ws we) (t1 : -1099511627776 ≤ rt) (t2 : rt ≤ 1099511627776) :
    Calls Try.prog 72 #[.slice A n c, .agg #[.int .u8 3, .int .i64 ws, .int .i64 we], .agg #[.int .i64 rk, .int .i64 rt, .int .i64 rv], .int .i64 0] w (GivenP l 3 ws we rk rt rv 0 w) := by
  have hL : Loc w [] := trivial
  obtain ⟨s1, s2⟩ := hwok.1
  have e1 : IntKind.i64.wrap (rt + ws) = rt + ws := IntWalk.i64_in _ (by omega)
  have hx : enw (recE rk rv 0 rt (rt + ws)) := enR_w (recE_R (by omega))
  have hfx := recE_fit rk rv 0 rt (rt + ws)
  have hd := with_dif (sess := true) hss (x := recE rk rv 0 rt (rt + ws))
  have hlen := (withE_tot (sess := true) hx hl).2.2
  have hres : givE l 3 ws we rk rt rv 0 = (sortE (withE true l (recE rk rv 0 rt (rt + ws))).1, (withE true l (recE rk rv 0 rt (rt + ws))).2 && decide ((withE true l (recE rk rv 0 rt (rt + ws))).1.length ≤ 4000)) := by unfold givE rawE; rw [if_pos rfl]
  have hcc := recE_c rk rv 0 rt (rt + ws)
  rw [recE_0] at hx hfx hd hlen hres hcc
  have hwith := fun W (h : Rd enenc 11 W W.heap.size A l) => withS_any true A c n l ⟨rk, rt, (rt + ws), 1, rv, rv, rv, 0, 0, 0, 0⟩ W hln hz (by omega) h hx hl hfx (by omega) ⟨hcc.2.1, hcc.2.2.2⟩
  simp only at hwith
  obtain ⟨L', hL'⟩ : ∃ L', L' = (withE true l ⟨rk, rt, (rt + ws), 1, rv, rv, rv, 0, 0, 0, 0⟩).1 := ⟨_, rfl⟩
  obtain ⟨F, hF0⟩ : ∃ F, F = (withE true l ⟨rk, rt, (rt + ws), 1, rv, rv, rv, 0, 0, 0, 0⟩).2 := ⟨_, rfl⟩
  unfold WithP at hwith
  rw [← hF0, ← hL'] at hres
  rw [← hF0, ← hL'] at hwith
  rw [← hL'] at hd hlen
  have HAOF := Lib.hid (fun W => raof_any rv hrv W)
  have HWITH := Lib.hid hwith; have HRES := Lib.hid hres; have HD := Lib.hid hd
  obtain ⟨m, hm⟩ : ∃ m, L'.length = m := ⟨_, rfl⟩
  rw [hm] at hlen
  rw [hln] at hlen
  have HM := Lib.hid hm
  clear hwith hres hd hL' hF0 hx hfx hcc hrv hwok hm hln hz hl hss
  go_enter Try.func72, Try.ntmps72
  go_wp2_with fail
  go_at_call 95
  refine (HAOF.out _).mono ?_
  rintro r w5 ⟨rfl, hb5⟩
  replace hL := (by with_reducible first | exact hL.below hb5 | exact (hL.new _ _).below hb5 | exact ((hL.new _ _).new _ _).below hb5 | exact (((hL.new _ _).new _ _).new _ _).below hb5 | exact ((((hL.new _ _).new _ _).new _ _).new _ _).below hb5); (repeat rw [World.size_alloc] at hL); have hF := hL; (repeat unfold Loc at hF)
  go_wp2_with fail
  have hl6 : Loc ((((w5.setCell ⟨w.heap.size + 2, 3, none⟩ (.int .i64 1)).setCell ⟨w.heap.size + 2, 4, none⟩ (.int .i64 rv)).setCell ⟨w.heap.size + 2, 5, none⟩ (.int .i64 rv)).setCell ⟨w.heap.size + 2, 6, none⟩ (.int .i64 rv)) [(w.heap.size + 2, [.int .i64 rk, .int .i64 rt, .int .i64 (rt + ws), .int .i64 1, .int .i64 rv, .int .i64 rv, .int .i64 rv, .int .i64 0, .int .i64 0, .int .i64 0, .int .i64 0]), (w.heap.size + 1, [.int .i64 rk, .int .i64 rt, .int .i64 rv]), (w.heap.size, [.int .u8 3, .int .i64 ws, .int .i64 we])] := ((((hL.put (by simp; omega) 3 _ (by simp)).put (by simp; omega) 4 _ (by simp)).put (by simp; omega) 5 _ (by simp)).put (by simp; omega) 6 _ (by simp))
  have hb6 : Below w.heap.size w ((((w5.setCell ⟨w.heap.size + 2, 3, none⟩ (.int .i64 1)).setCell ⟨w.heap.size + 2, 4, none⟩ (.int .i64 rv)).setCell ⟨w.heap.size + 2, 5, none⟩ (.int .i64 rv)).setCell ⟨w.heap.size + 2, 6, none⟩ (.int .i64 rv)) := (by repeat (first | with_reducible exact Below.refl _ _ | with_reducible assumption | (with_reducible exact Env.below (by assumption)) | (with_reducible refine below_new ?_ _) | (with_reducible refine below_drew ?_) | (with_reducible refine below_drewN ?_ _) | (with_reducible refine below_put ?_ ?_ _; rotate_left 1; (dsimp only; omega)) | (with_reducible refine below_then ?_ (by assumption))))
  obtain ⟨W6, hW6⟩ : ∃ W6, W6 = ((((w5.setCell ⟨w.heap.size + 2, 3, none⟩ (.int .i64 1)).setCell ⟨w.heap.size + 2, 4, none⟩ (.int .i64 rv)).setCell ⟨w.heap.size + 2, 5, none⟩ (.int .i64 rv)).setCell ⟨w.heap.size + 2, 6, none⟩ (.int .i64 rv)) := ⟨_, rfl⟩
  rw [← hW6] at hl6 hb6 ⊢
  clear hF hL hb5 hW6 w5
  have hF := hl6
  (repeat unfold Loc at hF)
  go_wp2_with fail
  go_at_call 96
  refine (HWITH.out W6 (rd_grown hr hb6)).mono ?_
  rintro r w7 ⟨v7, rfl, own7, hb7⟩
  have hl7 := hl6.below hb7
  have hb7' : Below w.heap.size w w7 := below_then hb6 hb7
  obtain ⟨A7, c7, rfl, -⟩ := own_shape_n own7 HM.out
  have rd7 := Own.rd enenc_len own7
  clear hF hl6
  have hF := hl7
  (repeat unfold Loc at hF)
  cases F with
  | false =>
    have hres2 := HRES.out
    rw [HM.out] at hres2
    simp only [Bool.false_and] at hres2
    have HRES2 := Lib.hid hres2
    clear hres2
    go_wp2_with fail
    go_at_call 97
    refine (sortedR_any A7 c7 m L' _ HM.out (by omega) HD.out (rd7.below (by first | exact Below.refl _ _))).mono ?_
    rintro r w8 ⟨v8, rfl, own8, hb8⟩
    go_wp2
    go_ret2
    exact ⟨v8, by rw [HRES2.out]; rfl, by rw [HRES2.out]; exact own8.mono hb7'.size, below_then hb7' hb8⟩
  | true =>
    by_cases h4 : m ≤ 4000
    · have d1 : decide ((m : Int) ≤ (4000 : Int)) = true := by simp; omega
      have d1' : decide (m ≤ 4000) = true := by simp [h4]
      have hres2 := HRES.out
      rw [HM.out] at hres2
      rw [d1'] at hres2
      simp only [Bool.true_and] at hres2
      have HRES2 := Lib.hid hres2
      clear hres2
      go_wp2_with fail
      go_at_call 97
      refine (sortedR_any A7 c7 m L' _ HM.out (by omega) HD.out (rd7.below (by first | exact Below.refl _ _))).mono ?_
      rintro r w8 ⟨v8, rfl, own8, hb8⟩
      go_wp2
      go_ret2
      exact ⟨v8, by rw [HRES2.out]; rfl, by rw [HRES2.out]; exact own8.mono hb7'.size, below_then hb7' hb8⟩
    · have d1 : decide ((m : Int) ≤ (4000 : Int)) = false := by simp; omega
      have d1' : decide (m ≤ 4000) = false := by simp; omega
      have hres2 := HRES.out
      rw [HM.out] at hres2
      rw [d1'] at hres2
      simp only [Bool.true_and] at hres2
      have HRES2 := Lib.hid hres2
      clear hres2
      go_wp2_with fail
      go_at_call 97
      refine (sortedR_any A7 c7 m L' _ HM.out (by omega) HD.out (rd7.below (by first | exact Below.refl _ _))).mono ?_
      rintro r w8 ⟨v8, rfl, own8, hb8⟩
      go_wp2
      go_ret2
      exact ⟨v8, by rw [HRES2.out]; rfl, by rw [HRES2.out]; exact own8.mono hb7'.size, below_then hb7' hb8⟩
set_option maxHeartbeats 16000000 in
set_option maxRecDepth 100000 in
theorem givenS1 (A : Option Addr) (c n : Nat) (l : List En) (ws we rk rt rv : Int) (w : World) (hrv : (Lit.int .i64 rv).wf = true) (hln : l.length = n) (hz : A = none → c = 0) (hn : n ≤ 1099511627770) (hr : Rd enenc 11 w w.heap.size A l)
    (hss : SS l) (hl : ∀ y ∈ l, enw y) (ht : tot1 l ≤ 2305843009213690000 ∧ tot2 l ≤ 2305843009213690000) (hwok : wok 3 ws we) (t1 : -1099511627776 ≤ rt) (t2 : rt ≤ 1099511627776) :
    Calls Try.prog 72 #[.slice A n c, .agg #[.int .u8 3, .int .i64 ws, .int .i64 we], .agg #[.int .i64 rk, .int .i64 rt, .int .i64 rv], .int .i64 1] w (GivenP l 3 ws we rk rt rv 1 w) := by
  have hL : Loc w [] := trivial
  obtain ⟨s1, s2⟩ := hwok.1
  have e1 : IntKind.i64.wrap (rt + ws) = rt + ws := IntWalk.i64_in _ (by omega)
  have hx : enw (recE rk rv 1 rt (rt + ws)) := enR_w (recE_R (by omega))
  have hfx := recE_fit rk rv 1 rt (rt + ws)
  have hd := with_dif (sess := true) hss (x := recE rk rv 1 rt (rt + ws))
  have hlen := (withE_tot (sess := true) hx hl).2.2
  have hres : givE l 3 ws we rk rt rv 1 = (sortE (withE true l (recE rk rv 1 rt (rt + ws))).1, (withE true l (recE rk rv 1 rt (rt + ws))).2 && decide ((withE true l (recE rk rv 1 rt (rt + ws))).1.length ≤ 4000)) := by unfold givE rawE; rw [if_pos rfl]
  have hcc := recE_c rk rv 1 rt (rt + ws)
  rw [recE_1] at hx hfx hd hlen hres hcc
  have hwith := fun W (h : Rd enenc 11 W W.heap.size A l) => withS_any true A c n l ⟨rk, rt, (rt + ws), 0, 0, 0, 0, 1, rv, rv, rv⟩ W hln hz (by omega) h hx hl hfx (by omega) ⟨hcc.2.1, hcc.2.2.2⟩
  simp only at hwith
  obtain ⟨L', hL'⟩ : ∃ L', L' = (withE true l ⟨rk, rt, (rt + ws), 0, 0, 0, 0, 1, rv, rv, rv⟩).1 := ⟨_, rfl⟩
  obtain ⟨F, hF0⟩ : ∃ F, F = (withE true l ⟨rk, rt, (rt + ws), 0, 0, 0, 0, 1, rv, rv, rv⟩).2 := ⟨_, rfl⟩
  unfold WithP at hwith
  rw [← hF0, ← hL'] at hres
  rw [← hF0, ← hL'] at hwith
  rw [← hL'] at hd hlen
  have HAOF := Lib.hid (fun W => raof_any rv hrv W)
  have HWITH := Lib.hid hwith; have HRES := Lib.hid hres; have HD := Lib.hid hd
  obtain ⟨m, hm⟩ : ∃ m, L'.length = m := ⟨_, rfl⟩
  rw [hm] at hlen
  rw [hln] at hlen
  have HM := Lib.hid hm
  clear hwith hres hd hL' hF0 hx hfx hcc hrv hwok hm hln hz hl hss
  go_enter Try.func72, Try.ntmps72
  go_wp2_with fail
  go_at_call 95
  refine (HAOF.out _).mono ?_
  rintro r w5 ⟨rfl, hb5⟩
  replace hL := (by with_reducible first | exact hL.below hb5 | exact (hL.new _ _).below hb5 | exact ((hL.new _ _).new _ _).below hb5 | exact (((hL.new _ _).new _ _).new _ _).below hb5 | exact ((((hL.new _ _).new _ _).new _ _).new _ _).below hb5); (repeat rw [World.size_alloc] at hL); have hF := hL; (repeat unfold Loc at hF)
  go_wp2_with fail
  have hl6 : Loc ((((w5.setCell ⟨w.heap.size + 2, 7, none⟩ (.int .i64 1)).setCell ⟨w.heap.size + 2, 8, none⟩ (.int .i64 rv)).setCell ⟨w.heap.size + 2, 9, none⟩ (.int .i64 rv)).setCell ⟨w.heap.size + 2, 10, none⟩ (.int .i64 rv)) [(w.heap.size + 2, [.int .i64 rk, .int .i64 rt, .int .i64 (rt + ws), .int .i64 0, .int .i64 0, .int .i64 0, .int .i64 0, .int .i64 1, .int .i64 rv, .int .i64 rv, .int .i64 rv]), (w.heap.size + 1, [.int .i64 rk, .int .i64 rt, .int .i64 rv]), (w.heap.size, [.int .u8 3, .int .i64 ws, .int .i64 we])] := ((((hL.put (by simp; omega) 7 _ (by simp)).put (by simp; omega) 8 _ (by simp)).put (by simp; omega) 9 _ (by simp)).put (by simp; omega) 10 _ (by simp))
  have hb6 : Below w.heap.size w ((((w5.setCell ⟨w.heap.size + 2, 7, none⟩ (.int .i64 1)).setCell ⟨w.heap.size + 2, 8, none⟩ (.int .i64 rv)).setCell ⟨w.heap.size + 2, 9, none⟩ (.int .i64 rv)).setCell ⟨w.heap.size + 2, 10, none⟩ (.int .i64 rv)) := (by repeat (first | with_reducible exact Below.refl _ _ | with_reducible assumption | (with_reducible exact Env.below (by assumption)) | (with_reducible refine below_new ?_ _) | (with_reducible refine below_drew ?_) | (with_reducible refine below_drewN ?_ _) | (with_reducible refine below_put ?_ ?_ _; rotate_left 1; (dsimp only; omega)) | (with_reducible refine below_then ?_ (by assumption))))
  obtain ⟨W6, hW6⟩ : ∃ W6, W6 = ((((w5.setCell ⟨w.heap.size + 2, 7, none⟩ (.int .i64 1)).setCell ⟨w.heap.size + 2, 8, none⟩ (.int .i64 rv)).setCell ⟨w.heap.size + 2, 9, none⟩ (.int .i64 rv)).setCell ⟨w.heap.size + 2, 10, none⟩ (.int .i64 rv)) := ⟨_, rfl⟩
  rw [← hW6] at hl6 hb6 ⊢
  clear hF hL hb5 hW6 w5
  have hF := hl6
  (repeat unfold Loc at hF)
  go_wp2_with fail
  go_at_call 96
  refine (HWITH.out W6 (rd_grown hr hb6)).mono ?_
  rintro r w7 ⟨v7, rfl, own7, hb7⟩
  have hl7 := hl6.below hb7
  have hb7' : Below w.heap.size w w7 := below_then hb6 hb7
  obtain ⟨A7, c7, rfl, -⟩ := own_shape_n own7 HM.out
  have rd7 := Own.rd enenc_len own7
  clear hF hl6
  have hF := hl7
  (repeat unfold Loc at hF)
  cases F with
  | false =>
    have hres2 := HRES.out
    rw [HM.out] at hres2
    simp only [Bool.false_and] at hres2
    have HRES2 := Lib.hid hres2
    clear hres2
    go_wp2_with fail
    go_at_call 97
    refine (sortedR_any A7 c7 m L' _ HM.out (by omega) HD.out (rd7.below (by first | exact Below.refl _ _))).mono ?_
    rintro r w8 ⟨v8, rfl, own8, hb8⟩
    go_wp2
    go_ret2
    exact ⟨v8, by rw [HRES2.out]; rfl, by rw [HRES2.out]; exact own8.mono hb7'.size, below_then hb7' hb8⟩
  | true =>
    by_cases h4 : m ≤ 4000
    · have d1 : decide ((m : Int) ≤ (4000 : Int)) = true := by simp; omega
      have d1' : decide (m ≤ 4000) = true := by simp [h4]
      have hres2 := HRES.out
      rw [HM.out] at hres2
      rw [d1'] at hres2
      simp only [Bool.true_and] at hres2
      have HRES2 := Lib.hid hres2
      clear hres2
      go_wp2_with fail
      go_at_call 97
      refine (sortedR_any A7 c7 m L' _ HM.out (by omega) HD.out (rd7.below (by first | exact Below.refl _ _))).mono ?_
      rintro r w8 ⟨v8, rfl, own8, hb8⟩
      go_wp2
      go_ret2
      exact ⟨v8, by rw [HRES2.out]; rfl, by rw [HRES2.out]; exact own8.mono hb7'.size, below_then hb7' hb8⟩
    · have d1 : decide ((m : Int) ≤ (4000 : Int)) = false := by simp; omega
      have d1' : decide (m ≤ 4000) = false := by simp; omega
      have hres2 := HRES.out
      rw [HM.out] at hres2
      rw [d1'] at hres2
      simp only [Bool.true_and] at hres2
      have HRES2 := Lib.hid hres2
      clear hres2
      go_wp2_with fail
      go_at_call 97
      refine (sortedR_any A7 c7 m L' _ HM.out (by omega) HD.out (rd7.below (by first | exact Below.refl _ _))).mono ?_
      rintro r w8 ⟨v8, rfl, own8, hb8⟩
      go_wp2
      go_ret2
      exact ⟨v8, by rw [HRES2.out]; rfl, by rw [HRES2.out]; exact own8.mono hb7'.size, below_then hb7' hb8⟩
theorem Rd.apart {α : Type} {enc : α → List Value} {sz : Nat} {w : World} {B : Nat} {A : Option Addr} {l : List α} (h : Rd enc sz w B A l) {p : Addr} (hp : l ≠ [] → ∀ a, A = some a → a.block ≠ p.block) (u : Value) : Rd enc sz (w.setCell p u) B A l := fun hn => by
  obtain ⟨b, off, e, hb, hc⟩ := h hn
  have h1 := hp hn _ e
  refine ⟨b, off, e, hb, fun k x hx j v hu => ?_⟩
  refine (World.cell?_setCell_other _ _ _ _ (fun e' => h1 ?_)).trans (hc k x hx j v hu)
  first
    | rw [e']
    | rw [← e']
/-- What a round of Given does. -/
def RoundG (l : List En) (T : List (Int × Int)) (rk rv side : Int) (Lf : Nat → List En) (Ff : Nat → Bool) : Prop :=
  Lf 0 = l ∧ Ff 0 = true ∧ Lf T.length = (foldW (withE false) (fun p => recE rk rv side p.1 p.2) T l).1 ∧ Ff T.length = (foldW (withE false) (fun p => recE rk rv side p.1 p.2) T l).2 ∧
  ∀ (k : Nat) (p : Int × Int), T[k]? = some p → ∃ b, Ff (k + 1) = (Ff k && b) ∧ (Lf (k + 1)).length ≤ (Lf k).length + 1 ∧ ∀ (m : Nat) (A : Option Addr) (c : Nat) (W : World), (Lf k).length = m → m ≤ 1099511627776 → (A = none → c = 0) → Rd enenc 11 W W.heap.size A (Lf k) →
    Calls Try.prog 96 #[.slice A m c, .agg (enenc (recE rk rv side p.1 p.2)).toArray, .bool false] W fun r w' => ∃ v, r = .returned (.tuple #[v, .bool b]) ∧ Own enenc 11 w' W.heap.size 43 v (Lf (k + 1)) ∧ Below W.heap.size W w'
theorem roundG {l : List En} {T : List (Int × Int)} {rk rv side : Int} (hl : ∀ y ∈ l, enw y) (ht : tot1 l ≤ 2305843009213690000 ∧ tot2 l ≤ 2305843009213690000) (hp : ∀ p ∈ T, p.1 < p.2) (hT : T.length ≤ 18) : ∃ Lf Ff, RoundG l T rk rv side Lf Ff := by
  refine ⟨fun k => (foldW (withE false) (fun p => recE rk rv side p.1 p.2) (T.take k) l).1, fun k => (foldW (withE false) (fun p => recE rk rv side p.1 p.2) (T.take k) l).2, rfl, rfl, by simp, by simp, fun k p hk => ?_⟩
  have hkT : k < T.length := (List.getElem?_eq_some_iff.1 hk).1
  obtain ⟨i1, i2, i3, i4⟩ := raw_tot hl (rk := rk) (rv := rv) (side := side) k (T.take k) (by simp; omega) (fun q hq => hp q (List.mem_of_mem_take hq))
  have hpp : p.1 < p.2 := hp p (List.mem_of_getElem? hk)
  have hc := recE_c rk rv side p.1 p.2
  have hx : enw (recE rk rv side p.1 p.2) := enR_w (recE_R hpp)
  have e := foldW_snoc (f := withE false) (mk := fun p => recE rk rv side p.1 p.2) (l := l) hk
  refine ⟨(withE false (foldW (withE false) (fun p => recE rk rv side p.1 p.2) (T.take k) l).1 (recE rk rv side p.1 p.2)).2, congrArg Prod.snd e, ?_, fun m A c W hm hm2 hz hr => ?_⟩
  · simp only [e]
    exact (withE_tot (sess := false) hx i1).2.2
  · have key := withS_any false A c m (foldW (withE false) (fun p => recE rk rv side p.1 p.2) (T.take k) l).1 (recE rk rv side p.1 p.2) W hm hz hm2 hr hx i1 (recE_fit _ _ _ _ _) (by omega) ⟨hc.2.1, hc.2.2.2⟩
    simp only [e]
    exact key

set_option maxHeartbeats 16000000 in
set_option maxRecDepth 100000 in
theorem givenW0 (A : Option Addr) (c n : Nat) (l : List En) (wk ws we rk rt rv : Int) (w : World) (hrv : (Lit.int .i64 rv).wf = true) (hln : l.length = n) (hz : A = none → c = 0) (hn : n ≤ 1099511627700) (hr : Rd enenc 11 w w.heap.size A l)
    (hss : SS l) (hl : ∀ y ∈ l, enw y) (ht : tot1 l ≤ 2305843009213690000 ∧ tot2 l ≤ 2305843009213690000) (hwok : wok wk ws we) (hk : wk ≠ 3) (t1 : -1099511627776 ≤ rt) (t2 : rt ≤ 1099511627776) :
    Calls Try.prog 72 #[.slice A n c, .agg #[.int .u8 wk, .int .i64 ws, .int .i64 we], .agg #[.int .i64 rk, .int .i64 rt, .int .i64 rv], .int .i64 0] w (GivenP l wk ws we rk rt rv 0 w) := by
  have hL : Loc w [] := trivial
  obtain ⟨s1, s2⟩ := hwok.1
  have e1 : IntKind.i64.wrap (rt + ws) = rt + ws := IntWalk.i64_in _ (by omega)
  obtain ⟨hsp, hsl⟩ := wspans_ok hwok t1 t2
  have hspans := fun W => spans_any wk ws we rt W hwok hk t1 t2
  obtain ⟨T, hT⟩ : ∃ T, T = wspans wk ws we rt := ⟨_, rfl⟩
  have hres : givE l wk ws we rk rt rv 0 = (sortE (foldW (withE false) (fun p => recE rk rv 0 p.1 p.2) T l).1, (foldW (withE false) (fun p => recE rk rv 0 p.1 p.2) T l).2 && decide ((foldW (withE false) (fun p => recE rk rv 0 p.1 p.2) T l).1.length ≤ 4000)) := by unfold givE rawE; rw [if_neg hk, ← hT]
  rw [← hT] at hsp hsl hspans
  have hdif := raw_dif hss hl (rk := rk) (rv := rv) (side := 0) hsp
  obtain ⟨Lf, Ff, hG⟩ := roundG hl (rk := rk) (rv := rv) (side := 0) ht hsp hsl
  rw [← hG.2.2.1] at hdif
  rw [← hG.2.2.1, ← hG.2.2.2.1] at hres
  obtain ⟨N, hN⟩ : ∃ N, T.length = N := ⟨_, rfl⟩
  rw [hN] at hsl hres hdif
  obtain ⟨hG1, hG2, -, -, hG3⟩ := hG
  have hlen : ∀ k, k ≤ N → (Lf k).length ≤ n + k := by
    intro k
    induction k with
    | zero => intro _; rw [hG1, hln]; exact Nat.le_refl _
    | succ k ih =>
      intro hk
      obtain ⟨b, -, h2, -⟩ := hG3 k (T[k]'(by omega)) (List.getElem?_eq_getElem (by omega))
      have := ih (by omega)
      omega
  have d3 : decide (wk = 3) = false := by simp [hk]
  have d3' : (wk == 3) = false := by simp [hk]
  have HAOF := Lib.hid (fun W => raof_any rv hrv W)
  have HSP := Lib.hid hspans; have HRES := Lib.hid hres; have HD := Lib.hid hdif; have HG1 := Lib.hid hG1; have HG2 := Lib.hid hG2; have HG3 := Lib.hid hG3; have HN := Lib.hid hN; have HLEN := Lib.hid hlen; have HLN := Lib.hid hln; have HZ := Lib.hid hz
  clear hspans hres hdif hG1 hG2 hG3 hN hT hsp hlen hrv hwok hln hz hl hss hk ht
  go_enter Try.func72, Try.ntmps72
  go_wp2_with fail
  go_at_call 95
  refine (HAOF.out _).mono ?_
  rintro r w5 ⟨rfl, hb5⟩
  replace hL := (by with_reducible first | exact hL.below hb5 | exact (hL.new _ _).below hb5 | exact ((hL.new _ _).new _ _).below hb5 | exact (((hL.new _ _).new _ _).new _ _).below hb5 | exact ((((hL.new _ _).new _ _).new _ _).new _ _).below hb5); (repeat rw [World.size_alloc] at hL); have hF := hL; (repeat unfold Loc at hF)
  go_wp2_with fail
  have hl6 : Loc ((((w5.setCell ⟨w.heap.size + 2, 3, none⟩ (.int .i64 1)).setCell ⟨w.heap.size + 2, 4, none⟩ (.int .i64 rv)).setCell ⟨w.heap.size + 2, 5, none⟩ (.int .i64 rv)).setCell ⟨w.heap.size + 2, 6, none⟩ (.int .i64 rv)) [(w.heap.size + 2, [.int .i64 rk, .int .i64 rt, .int .i64 (rt + ws), .int .i64 1, .int .i64 rv, .int .i64 rv, .int .i64 rv, .int .i64 0, .int .i64 0, .int .i64 0, .int .i64 0]), (w.heap.size + 1, [.int .i64 rk, .int .i64 rt, .int .i64 rv]), (w.heap.size, [.int .u8 wk, .int .i64 ws, .int .i64 we])] := ((((hL.put (by simp; omega) 3 _ (by simp)).put (by simp; omega) 4 _ (by simp)).put (by simp; omega) 5 _ (by simp)).put (by simp; omega) 6 _ (by simp))
  have hb6 : Below w.heap.size w ((((w5.setCell ⟨w.heap.size + 2, 3, none⟩ (.int .i64 1)).setCell ⟨w.heap.size + 2, 4, none⟩ (.int .i64 rv)).setCell ⟨w.heap.size + 2, 5, none⟩ (.int .i64 rv)).setCell ⟨w.heap.size + 2, 6, none⟩ (.int .i64 rv)) := (by repeat (first | with_reducible exact Below.refl _ _ | with_reducible assumption | (with_reducible exact Env.below (by assumption)) | (with_reducible refine below_new ?_ _) | (with_reducible refine below_drew ?_) | (with_reducible refine below_drewN ?_ _) | (with_reducible refine below_put ?_ ?_ _; rotate_left 1; (dsimp only; omega)) | (with_reducible refine below_then ?_ (by assumption))))
  obtain ⟨W6, hW6⟩ : ∃ W6, W6 = ((((w5.setCell ⟨w.heap.size + 2, 3, none⟩ (.int .i64 1)).setCell ⟨w.heap.size + 2, 4, none⟩ (.int .i64 rv)).setCell ⟨w.heap.size + 2, 5, none⟩ (.int .i64 rv)).setCell ⟨w.heap.size + 2, 6, none⟩ (.int .i64 rv)) := ⟨_, rfl⟩
  rw [← hW6] at hl6 hb6 ⊢
  clear hF hL hb5 hW6 w5
  have hF := hl6
  (repeat unfold Loc at hF)
  go_wp2_with fail
  go_at_call 98
  refine (HSP.out W6).mono ?_
  rintro r w7 ⟨v7, rfl, own7, hb7⟩
  have hl7 : Loc w7 [(w.heap.size + 2, [.int .i64 rk, .int .i64 rt, .int .i64 (rt + ws), .int .i64 1, .int .i64 rv, .int .i64 rv, .int .i64 rv, .int .i64 0, .int .i64 0, .int .i64 0, .int .i64 0])] := by have h := hl6.below hb7; exact ⟨h.1, h.2.1, h.2.2.1, trivial⟩
  have hb7' : Below w.heap.size w w7 := below_then hb6 hb7
  have hxb : w.heap.size + 2 < W6.heap.size := hl6.1
  have hrd7 : Rd enenc 11 w7 w7.heap.size A l := rd_grown hr hb7'
  have hap7 : l ≠ [] → ∀ a, A = some a → a.block ≠ w.heap.size + 2 := fun hn a ha => by
    obtain ⟨b, off, e, hb, _⟩ := hr hn
    rw [ha] at e
    injection e with e
    rw [e]
    show b ≠ _
    omega
  obtain ⟨A7, c7, rfl, -⟩ := own_shape_n own7 HN.out
  obtain ⟨B, hB⟩ : ∃ B, B = W6.heap.size := ⟨_, rfl⟩
  rw [← hB] at own7 hxb
  clear hF hl6 hb7 hb6 hB hr W6
  go_wp2_with fail
  go_loopw [0, 14, 15] (fun lv fv iv wr => ∃ (k m : Nat) (A' : Option Addr) (c' : Nat) (sa ea : Int), iv = .int .i64 k ∧ k ≤ N ∧ lv = .slice A' m c' ∧ (Lf k).length = m ∧ (A' = none → c' = 0) ∧ Rd enenc 11 wr wr.heap.size A' (Lf k) ∧ (Lf k ≠ [] → ∀ a, A' = some a → a.block ≠ w.heap.size + 2) ∧ fv = .bool (Ff k) ∧ Own senc 2 wr B 38 (.slice A7 N c7) T ∧ Loc wr [(w.heap.size + 2, [.int .i64 rk, .int .i64 sa, .int .i64 ea, .int .i64 1, .int .i64 rv, .int .i64 rv, .int .i64 rv, .int .i64 0, .int .i64 0, .int .i64 0, .int .i64 0])] ∧ Below w.heap.size w wr) (fun _ _ iv _ => N - (intOf iv).toNat)
  case atStart => exact ⟨0, n, A, c, rt, rt + ws, rfl, Nat.zero_le _, rfl, (by rw [HG1.out]; exact HLN.out), HZ.out, (by rw [HG1.out]; exact hrd7), (by rw [HG1.out]; exact hap7), (by rw [HG2.out]), own7, hl7, hb7'⟩
  case round =>
    clear hl7 hb7' own7 hrd7 hap7
    obtain ⟨k, m, A', c', sa, ea, rfl, hkN, rfl, hm, hz', hrd, hap, rfl, own, hl, hb⟩ := hrel
    have hmn := HLEN.out k hkN
    rw [hm] at hmn
    have HM := Lib.hid hm; have HZ' := Lib.hid hz'; have HAP := Lib.hid hap
    obtain ⟨F, hF0⟩ : ∃ F, F = Ff k := ⟨_, rfl⟩
    rw [← hF0]
    have HF0 := Lib.hid hF0
    clear hm hz' hap hF0
    have hF := hl
    (repeat unfold Loc at hF)
    by_cases hlt : k < N
    · obtain ⟨p, hp⟩ : ∃ p, T[k]? = some p := ⟨_, List.getElem?_eq_getElem (by rw [HN.out]; exact hlt)⟩
      obtain ⟨b, off, hA7, hbb, f0, f1⟩ := span_cells (Own.rd senc_len own) hp
      obtain ⟨bb, hb1, hb2, hb3⟩ := HG3.out k p hp
      have HB1 := Lib.hid hb1; have HB3 := Lib.hid hb3
      obtain ⟨q1, q2⟩ := p
      subst hA7
      have d1 : decide ((k : Int) < (N : Int)) = true := by simp; omega
      have d1' : decide (k < N) = true := by simp [hlt]
      have k1 : (0 : Int) ≤ (k : Int) := by omega
      have k2 : (k : Int) < (N : Int) := by omega
      have e2 : IntKind.i64.wrap ((k : Int) + 1) = (k : Int) + 1 := IntWalk.i64_in _ (by omega)
      have hne : b ≠ w.heap.size + 2 := by have := (World.ownsRow.lt own b (by have := own.form; obtain ⟨A0, c0, h1, -, -, h2⟩ := this; injection h1 with h1 _ _; obtain ⟨g, h3, -⟩ := h2 _ h1.symm; injection h3 with h3 h4; subst h3; subst h4; rfl)).1; omega
      clear hb1 hb3 hlt hp
      simp only at f0 f1
      go_wp2_with fail
      have hl9 : Loc ((wr.setCell ⟨w.heap.size + 2, 1, none⟩ (.int .i64 q1)).setCell ⟨w.heap.size + 2, 2, none⟩ (.int .i64 q2)) [(w.heap.size + 2, [.int .i64 rk, .int .i64 q1, .int .i64 q2, .int .i64 1, .int .i64 rv, .int .i64 rv, .int .i64 rv, .int .i64 0, .int .i64 0, .int .i64 0, .int .i64 0])] := ((Loc.put (l := []) hl (by simp) 1 _ (by simp)).put (by simp) 2 _ (by simp))
      have hb9 : Below w.heap.size w ((wr.setCell ⟨w.heap.size + 2, 1, none⟩ (.int .i64 q1)).setCell ⟨w.heap.size + 2, 2, none⟩ (.int .i64 q2)) := below_put (below_put hb (by simp) _) (by simp) _
      have own9 : Own senc 2 ((wr.setCell ⟨w.heap.size + 2, 1, none⟩ (.int .i64 q1)).setCell ⟨w.heap.size + 2, 2, none⟩ (.int .i64 q2)) B 38 (.slice (some ⟨b, off, none⟩) N c7) T := own.grown (putW_grown (w.heap.size + 2) 1 [.int .i64 q1, .int .i64 q2] 0 wr) (own_apart own hxb)
      have hrd9 : Rd enenc 11 ((wr.setCell ⟨w.heap.size + 2, 1, none⟩ (.int .i64 q1)).setCell ⟨w.heap.size + 2, 2, none⟩ (.int .i64 q2)) wr.heap.size A' (Lf k) := (hrd.apart HAP.out _).apart HAP.out _
      obtain ⟨W9, hW9⟩ : ∃ W9, W9 = ((wr.setCell ⟨w.heap.size + 2, 1, none⟩ (.int .i64 q1)).setCell ⟨w.heap.size + 2, 2, none⟩ (.int .i64 q2)) := ⟨_, rfl⟩
      have hs9 : W9.heap.size = wr.heap.size := by rw [hW9]; simp [World.setCell]
      rw [← hW9] at hl9 hb9 own9 hrd9 ⊢
      rw [← hs9] at hrd9
      clear hF hl hb own hrd hW9 hs9 f0 f1 hbb
      have hF := hl9
      (repeat unfold Loc at hF)
      have hcall := HB3.out m A' c' W9 HM.out (by omega) HZ'.out hrd9
      simp only [recE_0, enenc] at hcall
      have HCALL := Lib.hid hcall
      clear hcall
      go_at_call 96
      refine HCALL.out.mono ?_
      rintro r w10 ⟨v10, rfl, own10, hb10⟩
      have hl10 := hl9.below hb10
      have hb10' := below_then hb9 hb10
      have hown10 := own9.below hb10
      obtain ⟨m2, hm2⟩ : ∃ m2, (Lf (k + 1)).length = m2 := ⟨_, rfl⟩
      obtain ⟨A10, c10, rfl, -⟩ := own_shape_n own10 hm2
      have HM2 := Lib.hid hm2
      have rd10 := Own.rd enenc_len own10
      have z10 := own_noneZ own10
      have ap10 : Lf (k + 1) ≠ [] → ∀ a, A10 = some a → a.block ≠ w.heap.size + 2 := fun _ a ha => by
        obtain ⟨A0, c0, h1, -, -, h2⟩ := own10.form
        injection h1 with h1 _ _
        obtain ⟨g, h3, h4, -⟩ := h2 a (h1.symm.trans ha)
        rw [h3]
        show g ≠ _
        have := hl9.1
        omega
      have Z10 := Lib.hid z10; have AP10 := Lib.hid ap10
      clear hF hl9 hb9 own9 hrd9 hb10 own10 hm2 z10 ap10
      cases F with
      | false =>
        have hfe : Ff (k + 1) = false := by rw [HB1.out, ← HF0.out]; rfl
        have HFE := Lib.hid hfe
        clear hfe
        go_wp2
        go_roundw
        case rel => exact ⟨k + 1, m2, A10, c10, q1, q2, by go_num, by omega, rfl, HM2.out, Z10.out, rd10, AP10.out, by rw [HFE.out], hown10, hl10, hb10'⟩
        case measure => simp [intOf]; omega
      | true =>
        have hfe : Ff (k + 1) = bb := by rw [HB1.out, ← HF0.out]; rfl
        have HFE := Lib.hid hfe
        clear hfe
        go_wp2
        go_roundw
        case rel => exact ⟨k + 1, m2, A10, c10, q1, q2, by go_num, by omega, rfl, HM2.out, Z10.out, rd10, AP10.out, by rw [HFE.out], hown10, hl10, hb10'⟩
        case measure => simp [intOf]; omega
    · obtain rfl : k = N := by omega
      have d1 : decide ((k : Int) < (k : Int)) = false := by simp
      have d1' : decide (k < k) = false := by simp
      have hres1 := HRES.out
      rw [HM.out, ← HF0.out] at hres1
      clear hlt
      cases F with
      | false =>
        simp only [Bool.false_and] at hres1
        have HRES2 := Lib.hid hres1
        clear hres1
        go_wp2_with fail
        go_at_call 97
        refine (sortedR_any A' c' m (Lf k) _ HM.out (by omega) HD.out hrd).mono ?_
        rintro r w8 ⟨v8, rfl, own8, hb8⟩
        go_wp2
        go_ret2
        exact ⟨v8, by rw [HRES2.out]; rfl, by rw [HRES2.out]; exact own8.mono hb.size, below_then hb hb8⟩
      | true =>
        simp only [Bool.true_and] at hres1
        by_cases h4 : m ≤ 4000
        · have b1 : decide ((m : Int) ≤ (4000 : Int)) = true := by simp; omega
          have b1' : decide (m ≤ 4000) = true := by simp [h4]
          rw [b1'] at hres1
          have HRES2 := Lib.hid hres1
          clear hres1
          go_wp2_with fail
          go_at_call 97
          refine (sortedR_any A' c' m (Lf k) _ HM.out (by omega) HD.out hrd).mono ?_
          rintro r w8 ⟨v8, rfl, own8, hb8⟩
          go_wp2
          go_ret2
          exact ⟨v8, by rw [HRES2.out]; rfl, by rw [HRES2.out]; exact own8.mono hb.size, below_then hb hb8⟩
        · have b1 : decide ((m : Int) ≤ (4000 : Int)) = false := by simp; omega
          have b1' : decide (m ≤ 4000) = false := by simp; omega
          rw [b1'] at hres1
          have HRES2 := Lib.hid hres1
          clear hres1
          go_wp2_with fail
          go_at_call 97
          refine (sortedR_any A' c' m (Lf k) _ HM.out (by omega) HD.out hrd).mono ?_
          rintro r w8 ⟨v8, rfl, own8, hb8⟩
          go_wp2
          go_ret2
          exact ⟨v8, by rw [HRES2.out]; rfl, by rw [HRES2.out]; exact own8.mono hb.size, below_then hb hb8⟩
set_option maxHeartbeats 16000000 in
set_option maxRecDepth 100000 in
theorem givenW1 (A : Option Addr) (c n : Nat) (l : List En) (wk ws we rk rt rv : Int) (w : World) (hrv : (Lit.int .i64 rv).wf = true) (hln : l.length = n) (hz : A = none → c = 0) (hn : n ≤ 1099511627700) (hr : Rd enenc 11 w w.heap.size A l)
    (hss : SS l) (hl : ∀ y ∈ l, enw y) (ht : tot1 l ≤ 2305843009213690000 ∧ tot2 l ≤ 2305843009213690000) (hwok : wok wk ws we) (hk : wk ≠ 3) (t1 : -1099511627776 ≤ rt) (t2 : rt ≤ 1099511627776) :
    Calls Try.prog 72 #[.slice A n c, .agg #[.int .u8 wk, .int .i64 ws, .int .i64 we], .agg #[.int .i64 rk, .int .i64 rt, .int .i64 rv], .int .i64 1] w (GivenP l wk ws we rk rt rv 1 w) := by
  have hL : Loc w [] := trivial
  obtain ⟨s1, s2⟩ := hwok.1
  have e1 : IntKind.i64.wrap (rt + ws) = rt + ws := IntWalk.i64_in _ (by omega)
  obtain ⟨hsp, hsl⟩ := wspans_ok hwok t1 t2
  have hspans := fun W => spans_any wk ws we rt W hwok hk t1 t2
  obtain ⟨T, hT⟩ : ∃ T, T = wspans wk ws we rt := ⟨_, rfl⟩
  have hres : givE l wk ws we rk rt rv 1 = (sortE (foldW (withE false) (fun p => recE rk rv 1 p.1 p.2) T l).1, (foldW (withE false) (fun p => recE rk rv 1 p.1 p.2) T l).2 && decide ((foldW (withE false) (fun p => recE rk rv 1 p.1 p.2) T l).1.length ≤ 4000)) := by unfold givE rawE; rw [if_neg hk, ← hT]
  rw [← hT] at hsp hsl hspans
  have hdif := raw_dif hss hl (rk := rk) (rv := rv) (side := 1) hsp
  obtain ⟨Lf, Ff, hG⟩ := roundG hl (rk := rk) (rv := rv) (side := 1) ht hsp hsl
  rw [← hG.2.2.1] at hdif
  rw [← hG.2.2.1, ← hG.2.2.2.1] at hres
  obtain ⟨N, hN⟩ : ∃ N, T.length = N := ⟨_, rfl⟩
  rw [hN] at hsl hres hdif
  obtain ⟨hG1, hG2, -, -, hG3⟩ := hG
  have hlen : ∀ k, k ≤ N → (Lf k).length ≤ n + k := by
    intro k
    induction k with
    | zero => intro _; rw [hG1, hln]; exact Nat.le_refl _
    | succ k ih =>
      intro hk
      obtain ⟨b, -, h2, -⟩ := hG3 k (T[k]'(by omega)) (List.getElem?_eq_getElem (by omega))
      have := ih (by omega)
      omega
  have d3 : decide (wk = 3) = false := by simp [hk]
  have d3' : (wk == 3) = false := by simp [hk]
  have HAOF := Lib.hid (fun W => raof_any rv hrv W)
  have HSP := Lib.hid hspans; have HRES := Lib.hid hres; have HD := Lib.hid hdif; have HG1 := Lib.hid hG1; have HG2 := Lib.hid hG2; have HG3 := Lib.hid hG3; have HN := Lib.hid hN; have HLEN := Lib.hid hlen; have HLN := Lib.hid hln; have HZ := Lib.hid hz
  clear hspans hres hdif hG1 hG2 hG3 hN hT hsp hlen hrv hwok hln hz hl hss hk ht
  go_enter Try.func72, Try.ntmps72
  go_wp2_with fail
  go_at_call 95
  refine (HAOF.out _).mono ?_
  rintro r w5 ⟨rfl, hb5⟩
  replace hL := (by with_reducible first | exact hL.below hb5 | exact (hL.new _ _).below hb5 | exact ((hL.new _ _).new _ _).below hb5 | exact (((hL.new _ _).new _ _).new _ _).below hb5 | exact ((((hL.new _ _).new _ _).new _ _).new _ _).below hb5); (repeat rw [World.size_alloc] at hL); have hF := hL; (repeat unfold Loc at hF)
  go_wp2_with fail
  have hl6 : Loc ((((w5.setCell ⟨w.heap.size + 2, 7, none⟩ (.int .i64 1)).setCell ⟨w.heap.size + 2, 8, none⟩ (.int .i64 rv)).setCell ⟨w.heap.size + 2, 9, none⟩ (.int .i64 rv)).setCell ⟨w.heap.size + 2, 10, none⟩ (.int .i64 rv)) [(w.heap.size + 2, [.int .i64 rk, .int .i64 rt, .int .i64 (rt + ws), .int .i64 0, .int .i64 0, .int .i64 0, .int .i64 0, .int .i64 1, .int .i64 rv, .int .i64 rv, .int .i64 rv]), (w.heap.size + 1, [.int .i64 rk, .int .i64 rt, .int .i64 rv]), (w.heap.size, [.int .u8 wk, .int .i64 ws, .int .i64 we])] := ((((hL.put (by simp; omega) 7 _ (by simp)).put (by simp; omega) 8 _ (by simp)).put (by simp; omega) 9 _ (by simp)).put (by simp; omega) 10 _ (by simp))
  have hb6 : Below w.heap.size w ((((w5.setCell ⟨w.heap.size + 2, 7, none⟩ (.int .i64 1)).setCell ⟨w.heap.size + 2, 8, none⟩ (.int .i64 rv)).setCell ⟨w.heap.size + 2, 9, none⟩ (.int .i64 rv)).setCell ⟨w.heap.size + 2, 10, none⟩ (.int .i64 rv)) := (by repeat (first | with_reducible exact Below.refl _ _ | with_reducible assumption | (with_reducible exact Env.below (by assumption)) | (with_reducible refine below_new ?_ _) | (with_reducible refine below_drew ?_) | (with_reducible refine below_drewN ?_ _) | (with_reducible refine below_put ?_ ?_ _; rotate_left 1; (dsimp only; omega)) | (with_reducible refine below_then ?_ (by assumption))))
  obtain ⟨W6, hW6⟩ : ∃ W6, W6 = ((((w5.setCell ⟨w.heap.size + 2, 7, none⟩ (.int .i64 1)).setCell ⟨w.heap.size + 2, 8, none⟩ (.int .i64 rv)).setCell ⟨w.heap.size + 2, 9, none⟩ (.int .i64 rv)).setCell ⟨w.heap.size + 2, 10, none⟩ (.int .i64 rv)) := ⟨_, rfl⟩
  rw [← hW6] at hl6 hb6 ⊢
  clear hF hL hb5 hW6 w5
  have hF := hl6
  (repeat unfold Loc at hF)
  go_wp2_with fail
  go_at_call 98
  refine (HSP.out W6).mono ?_
  rintro r w7 ⟨v7, rfl, own7, hb7⟩
  have hl7 : Loc w7 [(w.heap.size + 2, [.int .i64 rk, .int .i64 rt, .int .i64 (rt + ws), .int .i64 0, .int .i64 0, .int .i64 0, .int .i64 0, .int .i64 1, .int .i64 rv, .int .i64 rv, .int .i64 rv])] := by have h := hl6.below hb7; exact ⟨h.1, h.2.1, h.2.2.1, trivial⟩
  have hb7' : Below w.heap.size w w7 := below_then hb6 hb7
  have hxb : w.heap.size + 2 < W6.heap.size := hl6.1
  have hrd7 : Rd enenc 11 w7 w7.heap.size A l := rd_grown hr hb7'
  have hap7 : l ≠ [] → ∀ a, A = some a → a.block ≠ w.heap.size + 2 := fun hn a ha => by
    obtain ⟨b, off, e, hb, _⟩ := hr hn
    rw [ha] at e
    injection e with e
    rw [e]
    show b ≠ _
    omega
  obtain ⟨A7, c7, rfl, -⟩ := own_shape_n own7 HN.out
  obtain ⟨B, hB⟩ : ∃ B, B = W6.heap.size := ⟨_, rfl⟩
  rw [← hB] at own7 hxb
  clear hF hl6 hb7 hb6 hB hr W6
  go_wp2_with fail
  go_loopw [0, 14, 15] (fun lv fv iv wr => ∃ (k m : Nat) (A' : Option Addr) (c' : Nat) (sa ea : Int), iv = .int .i64 k ∧ k ≤ N ∧ lv = .slice A' m c' ∧ (Lf k).length = m ∧ (A' = none → c' = 0) ∧ Rd enenc 11 wr wr.heap.size A' (Lf k) ∧ (Lf k ≠ [] → ∀ a, A' = some a → a.block ≠ w.heap.size + 2) ∧ fv = .bool (Ff k) ∧ Own senc 2 wr B 38 (.slice A7 N c7) T ∧ Loc wr [(w.heap.size + 2, [.int .i64 rk, .int .i64 sa, .int .i64 ea, .int .i64 0, .int .i64 0, .int .i64 0, .int .i64 0, .int .i64 1, .int .i64 rv, .int .i64 rv, .int .i64 rv])] ∧ Below w.heap.size w wr) (fun _ _ iv _ => N - (intOf iv).toNat)
  case atStart => exact ⟨0, n, A, c, rt, rt + ws, rfl, Nat.zero_le _, rfl, (by rw [HG1.out]; exact HLN.out), HZ.out, (by rw [HG1.out]; exact hrd7), (by rw [HG1.out]; exact hap7), (by rw [HG2.out]), own7, hl7, hb7'⟩
  case round =>
    clear hl7 hb7' own7 hrd7 hap7
    obtain ⟨k, m, A', c', sa, ea, rfl, hkN, rfl, hm, hz', hrd, hap, rfl, own, hl, hb⟩ := hrel
    have hmn := HLEN.out k hkN
    rw [hm] at hmn
    have HM := Lib.hid hm; have HZ' := Lib.hid hz'; have HAP := Lib.hid hap
    obtain ⟨F, hF0⟩ : ∃ F, F = Ff k := ⟨_, rfl⟩
    rw [← hF0]
    have HF0 := Lib.hid hF0
    clear hm hz' hap hF0
    have hF := hl
    (repeat unfold Loc at hF)
    by_cases hlt : k < N
    · obtain ⟨p, hp⟩ : ∃ p, T[k]? = some p := ⟨_, List.getElem?_eq_getElem (by rw [HN.out]; exact hlt)⟩
      obtain ⟨b, off, hA7, hbb, f0, f1⟩ := span_cells (Own.rd senc_len own) hp
      obtain ⟨bb, hb1, hb2, hb3⟩ := HG3.out k p hp
      have HB1 := Lib.hid hb1; have HB3 := Lib.hid hb3
      obtain ⟨q1, q2⟩ := p
      subst hA7
      have d1 : decide ((k : Int) < (N : Int)) = true := by simp; omega
      have d1' : decide (k < N) = true := by simp [hlt]
      have k1 : (0 : Int) ≤ (k : Int) := by omega
      have k2 : (k : Int) < (N : Int) := by omega
      have e2 : IntKind.i64.wrap ((k : Int) + 1) = (k : Int) + 1 := IntWalk.i64_in _ (by omega)
      have hne : b ≠ w.heap.size + 2 := by have := (World.ownsRow.lt own b (by have := own.form; obtain ⟨A0, c0, h1, -, -, h2⟩ := this; injection h1 with h1 _ _; obtain ⟨g, h3, -⟩ := h2 _ h1.symm; injection h3 with h3 h4; subst h3; subst h4; rfl)).1; omega
      clear hb1 hb3 hlt hp
      simp only at f0 f1
      go_wp2_with fail
      have hl9 : Loc ((wr.setCell ⟨w.heap.size + 2, 1, none⟩ (.int .i64 q1)).setCell ⟨w.heap.size + 2, 2, none⟩ (.int .i64 q2)) [(w.heap.size + 2, [.int .i64 rk, .int .i64 q1, .int .i64 q2, .int .i64 0, .int .i64 0, .int .i64 0, .int .i64 0, .int .i64 1, .int .i64 rv, .int .i64 rv, .int .i64 rv])] := ((Loc.put (l := []) hl (by simp) 1 _ (by simp)).put (by simp) 2 _ (by simp))
      have hb9 : Below w.heap.size w ((wr.setCell ⟨w.heap.size + 2, 1, none⟩ (.int .i64 q1)).setCell ⟨w.heap.size + 2, 2, none⟩ (.int .i64 q2)) := below_put (below_put hb (by simp) _) (by simp) _
      have own9 : Own senc 2 ((wr.setCell ⟨w.heap.size + 2, 1, none⟩ (.int .i64 q1)).setCell ⟨w.heap.size + 2, 2, none⟩ (.int .i64 q2)) B 38 (.slice (some ⟨b, off, none⟩) N c7) T := own.grown (putW_grown (w.heap.size + 2) 1 [.int .i64 q1, .int .i64 q2] 0 wr) (own_apart own hxb)
      have hrd9 : Rd enenc 11 ((wr.setCell ⟨w.heap.size + 2, 1, none⟩ (.int .i64 q1)).setCell ⟨w.heap.size + 2, 2, none⟩ (.int .i64 q2)) wr.heap.size A' (Lf k) := (hrd.apart HAP.out _).apart HAP.out _
      obtain ⟨W9, hW9⟩ : ∃ W9, W9 = ((wr.setCell ⟨w.heap.size + 2, 1, none⟩ (.int .i64 q1)).setCell ⟨w.heap.size + 2, 2, none⟩ (.int .i64 q2)) := ⟨_, rfl⟩
      have hs9 : W9.heap.size = wr.heap.size := by rw [hW9]; simp [World.setCell]
      rw [← hW9] at hl9 hb9 own9 hrd9 ⊢
      rw [← hs9] at hrd9
      clear hF hl hb own hrd hW9 hs9 f0 f1 hbb
      have hF := hl9
      (repeat unfold Loc at hF)
      have hcall := HB3.out m A' c' W9 HM.out (by omega) HZ'.out hrd9
      simp only [recE_1, enenc] at hcall
      have HCALL := Lib.hid hcall
      clear hcall
      go_at_call 96
      refine HCALL.out.mono ?_
      rintro r w10 ⟨v10, rfl, own10, hb10⟩
      have hl10 := hl9.below hb10
      have hb10' := below_then hb9 hb10
      have hown10 := own9.below hb10
      obtain ⟨m2, hm2⟩ : ∃ m2, (Lf (k + 1)).length = m2 := ⟨_, rfl⟩
      obtain ⟨A10, c10, rfl, -⟩ := own_shape_n own10 hm2
      have HM2 := Lib.hid hm2
      have rd10 := Own.rd enenc_len own10
      have z10 := own_noneZ own10
      have ap10 : Lf (k + 1) ≠ [] → ∀ a, A10 = some a → a.block ≠ w.heap.size + 2 := fun _ a ha => by
        obtain ⟨A0, c0, h1, -, -, h2⟩ := own10.form
        injection h1 with h1 _ _
        obtain ⟨g, h3, h4, -⟩ := h2 a (h1.symm.trans ha)
        rw [h3]
        show g ≠ _
        have := hl9.1
        omega
      have Z10 := Lib.hid z10; have AP10 := Lib.hid ap10
      clear hF hl9 hb9 own9 hrd9 hb10 own10 hm2 z10 ap10
      cases F with
      | false =>
        have hfe : Ff (k + 1) = false := by rw [HB1.out, ← HF0.out]; rfl
        have HFE := Lib.hid hfe
        clear hfe
        go_wp2
        go_roundw
        case rel => exact ⟨k + 1, m2, A10, c10, q1, q2, by go_num, by omega, rfl, HM2.out, Z10.out, rd10, AP10.out, by rw [HFE.out], hown10, hl10, hb10'⟩
        case measure => simp [intOf]; omega
      | true =>
        have hfe : Ff (k + 1) = bb := by rw [HB1.out, ← HF0.out]; rfl
        have HFE := Lib.hid hfe
        clear hfe
        go_wp2
        go_roundw
        case rel => exact ⟨k + 1, m2, A10, c10, q1, q2, by go_num, by omega, rfl, HM2.out, Z10.out, rd10, AP10.out, by rw [HFE.out], hown10, hl10, hb10'⟩
        case measure => simp [intOf]; omega
    · obtain rfl : k = N := by omega
      have d1 : decide ((k : Int) < (k : Int)) = false := by simp
      have d1' : decide (k < k) = false := by simp
      have hres1 := HRES.out
      rw [HM.out, ← HF0.out] at hres1
      clear hlt
      cases F with
      | false =>
        simp only [Bool.false_and] at hres1
        have HRES2 := Lib.hid hres1
        clear hres1
        go_wp2_with fail
        go_at_call 97
        refine (sortedR_any A' c' m (Lf k) _ HM.out (by omega) HD.out hrd).mono ?_
        rintro r w8 ⟨v8, rfl, own8, hb8⟩
        go_wp2
        go_ret2
        exact ⟨v8, by rw [HRES2.out]; rfl, by rw [HRES2.out]; exact own8.mono hb.size, below_then hb hb8⟩
      | true =>
        simp only [Bool.true_and] at hres1
        by_cases h4 : m ≤ 4000
        · have b1 : decide ((m : Int) ≤ (4000 : Int)) = true := by simp; omega
          have b1' : decide (m ≤ 4000) = true := by simp [h4]
          rw [b1'] at hres1
          have HRES2 := Lib.hid hres1
          clear hres1
          go_wp2_with fail
          go_at_call 97
          refine (sortedR_any A' c' m (Lf k) _ HM.out (by omega) HD.out hrd).mono ?_
          rintro r w8 ⟨v8, rfl, own8, hb8⟩
          go_wp2
          go_ret2
          exact ⟨v8, by rw [HRES2.out]; rfl, by rw [HRES2.out]; exact own8.mono hb.size, below_then hb hb8⟩
        · have b1 : decide ((m : Int) ≤ (4000 : Int)) = false := by simp; omega
          have b1' : decide (m ≤ 4000) = false := by simp; omega
          rw [b1'] at hres1
          have HRES2 := Lib.hid hres1
          clear hres1
          go_wp2_with fail
          go_at_call 97
          refine (sortedR_any A' c' m (Lf k) _ HM.out (by omega) HD.out hrd).mono ?_
          rintro r w8 ⟨v8, rfl, own8, hb8⟩
          go_wp2
          go_ret2
          exact ⟨v8, by rw [HRES2.out]; rfl, by rw [HRES2.out]; exact own8.mono hb.size, below_then hb hb8⟩
end Go.Proofs.Ytbbdepeifdbbdaa
