/- The contracts of the helpers of chapter 15's laws: Same, spans, alive, few. No condition but those that each names. -/
import Derived.Test.YtffehibdeogjeaaSessMerge
import Derived.Test.YtffehibdeogjeaaSessOf
import Derived.Deep.RegionLaw
namespace Go.Proofs.Ytffehibdeogjeaa
open Go.RowKit

theorem ssame_any (A A' : Option Addr) (c c' n n' : Nat) (l m : List (Int × Int)) (w : World) (hl : Rd senc 2 w w.heap.size A l) (hm : Rd senc 2 w w.heap.size A' m) (hn : l.length = n) (hn' : m.length = n') (hb : n ≤ 4611686018427387904) :
    Calls Try.prog 63 #[.slice A n c, .slice A' n' c'] w fun e w' => e = .returned (.bool (spansEq l m)) ∧ Below w.heap.size w w' := by
  subst hn hn'
  exact same_any A A' c c' l m w hl hm hb
theorem ssame_yes (A A' : Option Addr) (c c' n n' : Nat) (l m : List (Int × Int)) (w : World) (hl : Rd senc 2 w w.heap.size A l) (hm : Rd senc 2 w w.heap.size A' m) (hn : l.length = n) (hn' : m.length = n') (he : l = m) (hb : n ≤ 4611686018427387904) :
    Calls Try.prog 63 #[.slice A n c, .slice A' n' c'] w fun e w' => e = .returned (.bool true) ∧ Below w.heap.size w w' := by
  refine (ssame_any A A' c c' n n' l m w hl hm hn hn' hb).mono ?_
  rintro e w' ⟨h1, h2⟩
  exact ⟨by rw [h1]; simp [spansEq, he], h2⟩

def flat2 (xs : List (Int × Int)) : List Int := xs.flatMap fun x => [x.1, x.2]
theorem flat2_at : ∀ (xs : List (Int × Int)) (k : Nat) (x : Int × Int), xs[k]? = some x → (flat2 xs)[2 * k]? = some x.1 ∧ (flat2 xs)[2 * k + 1]? = some x.2
  | [], _, _, h => by simp at h
  | y :: xs, 0, x, h => by simp at h; subst h; simp [flat2]
  | y :: xs, k + 1, x, h => by
    have := flat2_at xs k x (by simpa using h)
    rw [show 2 * (k + 1) = 2 * k + 1 + 1 by omega]
    simpa [flat2] using this
theorem flat2_len (xs : List (Int × Int)) : (flat2 xs).length = 2 * xs.length := by
  induction xs with
  | nil => rfl
  | cons x xs ih => simp [flat2] at ih ⊢; omega
set_option maxHeartbeats 4000000 in
set_option maxRecDepth 100000 in
theorem sspans_any (A : Option Addr) (c n m : Nat) (xs : List (Int × Int)) (w : World) (hn : n = 2 * m) (hlm : xs.length = m) (hm : m ≤ 1000) (hr : Rd ienc 1 w w.heap.size A (flat2 xs)) :
    Calls Try.prog 69 #[.slice A n c] w fun e w' => ∃ v, e = .returned v ∧ Own senc 2 w' w.heap.size 32 v xs ∧ Below w.heap.size w w' := by
  obtain ⟨i0, hi0, hz0, hz1, hz2⟩ := info_parts sp_info
  have HL := Lib.hid hlm; have HN := Lib.hid hn
  have hn2 : n ≤ 2000 := by omega
  clear hlm hn
  go_enter Try.func69, Try.ntmps69
  go_wp2_with fail
  go_loopw [3, 4] (fun o i wr => ∃ (k i2 : Nat), k ≤ m ∧ i = .int .i64 i2 ∧ i2 = 2 * k ∧ Own senc 2 wr w.heap.size 32 o (xs.take k) ∧ Below w.heap.size w wr) (fun _ i _ => n - (intOf i).toNat)
  case atStart => exact ⟨0, 0, Nat.zero_le _, rfl, rfl, Own.nil _ _ _, Below.refl _ _⟩
  case round =>
    obtain ⟨k, i, hk, rfl, hi, howo, hb⟩ := hrel
    have HI := Lib.hid hi
    have hin : i ≤ 2000 := by omega
    clear hi
    have e1 : IntKind.i64.wrap ((i : Int) + 1) = (i : Int) + 1 := IntWalk.i64_in _ (by omega)
    have e2 : IntKind.i64.wrap ((i : Int) + 2) = (i : Int) + 2 := IntWalk.i64_in _ (by omega)
    by_cases h1 : k < m
    · obtain ⟨x, hx⟩ : ∃ x, xs[k]? = some x := ⟨_, List.getElem?_eq_getElem (by rw [HL.out]; exact h1)⟩
      have htk : xs.take k ++ [x] = xs.take (k + 1) := by rw [List.take_add_one, hx]; rfl
      have htl : (xs.take k).length = k := by rw [List.length_take, HL.out]; omega
      obtain ⟨hx1, hx2⟩ := flat2_at xs k x hx
      rw [← HI.out] at hx1 hx2
      obtain ⟨x1, x2⟩ := x
      dsimp only at hx1 hx2
      obtain ⟨b, off, rfl, hbB, f1⟩ := int_at hr hx1
      obtain ⟨b', off', e', _, f2⟩ := int_at hr hx2
      simp only [Option.some.injEq, Addr.mk.injEq, and_true] at e'
      obtain ⟨rfl, rfl⟩ := e'
      have g1 : wr.drew.cell? ⟨b, off + i, none⟩ = some (.int .i64 x1) := (hb.cell (p := ⟨b, off + i, none⟩) hbB).trans f1
      have g2 : wr.drew.cell? ⟨b, off + (i + 1), none⟩ = some (.int .i64 x2) := (hb.cell (p := ⟨b, off + (i + 1), none⟩) hbB).trans f2
      have hbw : b < wr.heap.size := Nat.lt_of_lt_of_le hbB hb.size
      have hlt : (i : Int) + 1 < (n : Int) := by have := HI.out; have := HN.out; omega
      have d1 : decide ((i : Int) + 1 < (n : Int)) = true := by simp [hlt]
      have i1 : (0 : Int) ≤ (i : Int) := by omega
      have i2 : (i : Int) < (n : Int) := by omega
      have i3 : (0 : Int) ≤ (i : Int) + 1 := by omega
      have hbA := below_drew (hb.alloc hb.size (.cells #[.int .i64 x1, .int .i64 x2] 32))
      have HTK := Lib.hid htk; have HTL := Lib.hid htl
      clear hx f1 f2 hx1 hx2 htk htl
      go_wp2_with fail
      go_wp2_with fail
      go_region_law (refine step_append_list rfl (.tmp 12) (.tmp 23) 103 rfl w.heap.size 32 i0 (.agg #[.int .i64 0, .int .i64 0]) 2 16 Try.underlying103 hi0 hz0 hz1 hz2 rfl (by decide) senc senc_len _ (xs.take k) [(x1, x2)] rfl (own_drew (howo.alloc _)) ⟨wr.heap.size, 0, none⟩ 1 1 rfl rfl (sp_new wr (x1, x2) 32 wr.heap.size rfl) (senc_one [(x1, x2)]) (by unfold maxLen; have := HTL.out; omega) (by have := HTL.out; omega) hbA.size ?_; intro v' w7 own7 hgr7 hbel)
      all_goals
        have hb7 : Below w.heap.size w w7 := hbA.trans hbel
        clear hgr7 hbel
        go_wp2
        go_roundw
        case rel => exact ⟨k + 1, i + 2, by omega, by go_num, by have := HI.out; omega, by rw [← HTK.out]; exact own7, hb7⟩
        case measure => simp [intOf]; have := HI.out; have := HN.out; omega
    · have hge : ¬ ((i : Int) + 1 < (n : Int)) := by have := HI.out; have := HN.out; omega
      have d1 : decide ((i : Int) + 1 < (n : Int)) = false := by simp; omega
      have htk : xs.take k = xs := List.take_of_length_le (by rw [HL.out]; omega)
      rw [htk] at howo
      clear htk
      go_wp2
      go_ret
      exact ⟨_, rfl, howo, hb⟩

theorem rd_lit (w : World) (xs : List Int) (t : TypeId) (vs : Array Value) (h : vs = (xs.map (Value.int .i64)).toArray) : Rd ienc 1 (w.alloc (.cells vs t)) (w.alloc (.cells vs t)).heap.size (some ⟨w.heap.size, 0, none⟩) xs := by
  subst h
  exact (rd_new w xs t).more (by rw [World.size_alloc]; exact Nat.le_refl _)
theorem canon_lit {l : List (Int × Int)} (hn : ∀ x ∈ l, x.1 < x.2) (hs : l.Pairwise fun a b => a.1 ≤ b.1) : canon l = mergeS l := (canon_eq hn (List.Perm.refl _) hs).symm
theorem sof_lit {ts : List Int} {g : Int} (h0 : sck 0 g = 0) (h1 : ts.length ≤ 4000) (h2 : ∀ t ∈ ts, sck t g = 0) : sof ts g = (canon (stimes g ts), 0) := by
  unfold sof
  rw [if_neg (by simp [h0]), if_neg (by omega), if_pos h2]
theorem sof_four : sof [1, 4, 9, 20] 5 = ([(1, 9), (9, 14), (20, 25)], 0) := by
  rw [sof_lit (by decide) (by decide) (by decide), canon_lit (by decide) (by decide)]
  decide
theorem sadd_ok {l : List (Int × Int)} {t g : Int} (hl : srtB l = true) (h0 : sck t g = 0) (h4 : (withS l (t, t + g)).length ≤ 4000) : sadd l t g = (withS l (t, t + g), 0) := by
  unfold sadd sfew
  obtain ⟨k1, -, -, -⟩ := sck_zero h0
  rw [if_neg (by simp [hl]), if_neg (by simp [h0]), canon_with (good_of_srtB hl).1 (by simp only; omega), if_neg (by omega)]
theorem srk_lit {l : List (Int × Int)} (h : ∀ i, i < l.length → sok (l.getD i (0, 0)) ∧ (0 < i → (l.getD (i - 1) (0, 0)).2 ≤ (l.getD i (0, 0)).1)) : srk l l.length :=
  ⟨fun i hi => (h i hi).1, fun i h0 hi => (h i hi).2 h0⟩
theorem sadd_four : sadd [(1, 9), (9, 14), (20, 25)] 8 5 = ([(1, 14), (20, 25)], 0) := by
  rw [sadd_ok (srt_all (by decide) (srk_lit (by decide))) (by decide) (by decide)]
  decide

set_option maxHeartbeats 4000000 in
set_option maxRecDepth 100000 in
theorem salive_any (w : World) : Calls Try.prog 57 #[] w fun e w' => e = .returned (.bool true) ∧ Below w.heap.size w w' := by
  have hof := fun (A : Option Addr) (c : Nat) (W : World) (h : Rd ienc 1 W W.heap.size A [1, 4, 9, 20]) => sof_any A c 4 [1, 4, 9, 20] 5 W rfl h
  rw [sof_four] at hof
  have hadd := fun (A : Option Addr) (c : Nat) (W : World) (hz : A = none → c = 0) (h : Rd senc 2 W W.heap.size A [(1, 9), (9, 14), (20, 25)]) => sadd_any A c 3 [(1, 9), (9, 14), (20, 25)] 8 5 W rfl hz (by omega) h
  rw [sadd_four] at hadd
  have HO := Lib.hid hof; have HA := Lib.hid hadd
  clear hof hadd
  have hL : Loc w [] := trivial
  go_enter Try.func57, Try.ntmps57
  go_wp2_with fail
  go_at_call 59
  refine (HO.out _ _ _ (rd_lit w [1, 4, 9, 20] _ _ rfl)).mono ?_
  rintro r w1 ⟨v1, rfl, own1, hb1⟩
  obtain ⟨A1, c1, rfl, -, z1⟩ := own_shape_z own1 (n := 3) rfl
  replace hL := (by with_reducible first | exact hL.below hb1 | exact (hL.new _ _).below hb1 | exact ((hL.new _ _).new _ _).below hb1 | exact (((hL.new _ _).new _ _).new _ _).below hb1 | exact ((((hL.new _ _).new _ _).new _ _).new _ _).below hb1); (repeat rw [World.size_alloc] at hL); have hF := hL; (repeat unfold Loc at hF)
  go_wp2_with fail
  go_at_call 62
  refine (HA.out _ _ _ z1 (Own.rd senc_len own1)).mono ?_
  rintro r w2 ⟨v2, rfl, own2, hb2⟩
  obtain ⟨A2, c2, rfl, -, z2⟩ := own_shape_z own2 (n := 2) rfl
  replace hL := (by with_reducible first | exact hL.below hb2 | exact (hL.new _ _).below hb2 | exact ((hL.new _ _).new _ _).below hb2 | exact (((hL.new _ _).new _ _).new _ _).below hb2 | exact ((((hL.new _ _).new _ _).new _ _).new _ _).below hb2); (repeat rw [World.size_alloc] at hL); have hF := hL; (repeat unfold Loc at hF)
  go_wp2_with fail
  go_at_call 69
  refine (sspans_any _ _ 6 3 [(1, 9), (9, 14), (20, 25)] _ rfl rfl (by omega) (rd_lit w2 [1, 9, 9, 14, 20, 25] _ _ rfl)).mono ?_
  rintro r w3 ⟨v3, rfl, own3, hb3⟩
  obtain ⟨A3, c3, rfl, -, z3⟩ := own_shape_z own3 (n := 3) rfl
  replace hL := (by with_reducible first | exact hL.below hb3 | exact (hL.new _ _).below hb3 | exact ((hL.new _ _).new _ _).below hb3 | exact (((hL.new _ _).new _ _).new _ _).below hb3 | exact ((((hL.new _ _).new _ _).new _ _).new _ _).below hb3); (repeat rw [World.size_alloc] at hL); have hF := hL; (repeat unfold Loc at hF)
  go_wp2_with fail
  go_at_call 63
  refine (ssame_yes _ _ _ _ 3 3 [(1, 9), (9, 14), (20, 25)] [(1, 9), (9, 14), (20, 25)] _ (rd_grown (Own.rd senc_len own1) (by repeat (first | with_reducible exact Below.refl _ _ | with_reducible assumption | (with_reducible exact Env.below (by assumption)) | (with_reducible refine below_new ?_ _) | (with_reducible refine below_drew ?_) | (with_reducible refine below_drewN ?_ _) | (with_reducible refine below_put ?_ ?_ _; rotate_left 1; (dsimp only; omega)) | (with_reducible refine below_then ?_ (by assumption))))) (Own.rd senc_len own3) rfl rfl rfl (by omega)).mono ?_
  rintro r w4 ⟨rfl, hb4⟩
  replace hL := (by with_reducible first | exact hL.below hb4 | exact (hL.new _ _).below hb4 | exact ((hL.new _ _).new _ _).below hb4 | exact (((hL.new _ _).new _ _).new _ _).below hb4 | exact ((((hL.new _ _).new _ _).new _ _).new _ _).below hb4); (repeat rw [World.size_alloc] at hL); have hF := hL; (repeat unfold Loc at hF)
  go_wp2_with fail
  go_at_call 69
  refine (sspans_any _ _ 4 2 [(1, 14), (20, 25)] _ rfl rfl (by omega) (rd_lit w4 [1, 14, 20, 25] _ _ rfl)).mono ?_
  rintro r w5 ⟨v5, rfl, own5, hb5⟩
  obtain ⟨A5, c5, rfl, -, z5⟩ := own_shape_z own5 (n := 2) rfl
  replace hL := (by with_reducible first | exact hL.below hb5 | exact (hL.new _ _).below hb5 | exact ((hL.new _ _).new _ _).below hb5 | exact (((hL.new _ _).new _ _).new _ _).below hb5 | exact ((((hL.new _ _).new _ _).new _ _).new _ _).below hb5); (repeat rw [World.size_alloc] at hL); have hF := hL; (repeat unfold Loc at hF)
  go_wp2_with fail
  go_at_call 63
  refine (ssame_yes _ _ _ _ 2 2 [(1, 14), (20, 25)] [(1, 14), (20, 25)] _ (rd_grown (Own.rd senc_len own2) (by repeat (first | with_reducible exact Below.refl _ _ | with_reducible assumption | (with_reducible exact Env.below (by assumption)) | (with_reducible refine below_new ?_ _) | (with_reducible refine below_drew ?_) | (with_reducible refine below_drewN ?_ _) | (with_reducible refine below_put ?_ ?_ _; rotate_left 1; (dsimp only; omega)) | (with_reducible refine below_then ?_ (by assumption))))) (Own.rd senc_len own5) rfl rfl rfl (by omega)).mono ?_
  rintro r w6 ⟨rfl, hb6⟩
  go_wp2
  go_ret
  exact ⟨rfl, (by repeat (first | with_reducible exact Below.refl _ _ | with_reducible assumption | (with_reducible exact Env.below (by assumption)) | (with_reducible refine below_new ?_ _) | (with_reducible refine below_drew ?_) | (with_reducible refine below_drewN ?_ _) | (with_reducible refine below_put ?_ ?_ _; rotate_left 1; (dsimp only; omega)) | (with_reducible refine below_then ?_ (by assumption))))⟩

/-- At most 60 times, all such, with a gap. -/
def sfewB (ts : List Int) (g : Int) : Bool := decide (ts.length ≤ 60 ∧ (∀ t ∈ ts, sck t g = 0) ∧ sck 0 g = 0)
set_option maxHeartbeats 4000000 in
set_option maxRecDepth 100000 in
theorem slfew_any (A : Option Addr) (c n : Nat) (ts : List Int) (g : Int) (w : World) (hln : ts.length = n) (hr : Rd ienc 1 w w.heap.size A ts) :
    Calls Try.prog 58 #[.slice A n c, .int .i64 g] w fun e w' => e = .returned (.bool (sfewB ts g)) ∧ Below w.heap.size w w' := by
  have hck := fun t W => rscheck_any t g W
  have HC := Lib.hid hck; have HL := Lib.hid hln
  clear hck hln
  go_enter Try.func58, Try.ntmps58
  go_wp2_with fail
  go_loopw [5] (fun i wr => w = wr ∧ ∃ k : Nat, k ≤ n ∧ k ≤ 60 ∧ i = .int .i64 k ∧ ∀ t ∈ ts.take k, sck t g = 0) (fun i _ => 60 - (intOf i).toNat)
  case atStart => exact ⟨rfl, 0, Nat.zero_le _, Nat.zero_le _, rfl, by simp⟩
  case round =>
    obtain ⟨rfl, k, hk, hk6, rfl, hall⟩ := hrel
    have HALL := Lib.hid hall
    clear hall
    by_cases h1 : k < n
    · have d1 : decide ((k : Int) < (n : Int)) = true := by simp; omega
      have d1' : decide (k < n) = true := by simp [h1]
      by_cases h6 : k < 60
      · have d6 : decide ((k : Int) < 60) = true := by simp; omega
        have d6' : decide (k < 60) = true := by simp [h6]
        obtain ⟨t, hx⟩ : ∃ t, ts[k]? = some t := ⟨_, List.getElem?_eq_getElem (by rw [HL.out]; exact h1)⟩
        obtain ⟨b, off, rfl, hbB, f1⟩ := int_at hr hx
        have i1 : (0 : Int) ≤ (k : Int) := by omega
        have i2 : (k : Int) < (n : Int) := by omega
        have e1 : IntKind.i64.wrap ((k : Int) + 1) = (k : Int) + 1 := IntWalk.i64_in _ (by omega)
        obtain ⟨z, hz⟩ : ∃ z, z = sck t g := ⟨_, rfl⟩
        have hc := HC.out t
        rw [← hz] at hc
        have HC2 := Lib.hid hc
        clear hc
        by_cases h0 : z = 0
        · have e3 : (z != 0) = false := by simp [h0]
          have hnx := all_succ HALL.out hx (by rw [← hz]; exact h0)
          have HNX := Lib.hid hnx
          clear hnx hx hz h0
          go_wp2_with fail
          go_at_call 61
          refine (HC2.out _).mono ?_
          rintro r w2 ⟨rfl, rfl⟩
          go_wp2
          go_roundw
          case rel => exact ⟨trivial, k + 1, by omega, by omega, by go_num, HNX.out⟩
          case measure => simp [intOf]; omega
        · have e3 : (z != 0) = true := by simp [h0]
          have hf : sfewB ts g = false := decide_eq_false (fun h => h0 (by rw [hz]; exact h.2.1 t (List.mem_iff_getElem?.2 ⟨k, hx⟩)))
          have HF := Lib.hid hf
          clear hf hx hz h0
          go_wp2_with fail
          go_at_call 61
          refine (HC2.out _).mono ?_
          rintro r w2 ⟨rfl, rfl⟩
          go_wp2
          go_ret
          exact ⟨ret_bool HF.out.symm, Below.refl _ _⟩
      · have d6 : decide ((k : Int) < 60) = false := by simp; omega
        have d6' : decide (k < 60) = false := by simp [h6]
        have d7 : decide ((n : Int) ≤ 60) = false := by simp; omega
        have d7' : decide (n ≤ 60) = false := by simp; omega
        have hf : sfewB ts g = false := decide_eq_false (fun h => by have := h.1; rw [HL.out] at this; omega)
        have HF := Lib.hid hf
        clear hf
        go_wp2
        go_ret
        exact ⟨ret_bool HF.out.symm, Below.refl _ _⟩
    · have d1 : decide ((k : Int) < (n : Int)) = false := by simp; omega
      have d1' : decide (k < n) = false := by simp [h1]
      obtain rfl : k = n := by omega
      have d7 : decide ((k : Int) ≤ 60) = true := by simp; omega
      have d7' : decide (k ≤ 60) = true := by simp; omega
      have htake : ts.take k = ts := List.take_of_length_le (by rw [HL.out]; exact Nat.le_refl _)
      have hall : ∀ t ∈ ts, sck t g = 0 := by have := HALL.out; rwa [htake] at this
      obtain ⟨z, hz⟩ : ∃ z, z = sck 0 g := ⟨_, rfl⟩
      have hc := HC.out 0
      rw [← hz] at hc
      have hf : sfewB ts g = (z == 0) := by
        unfold sfewB
        rw [← hz]
        by_cases h0 : z = 0
        · rw [decide_eq_true ⟨by rw [HL.out]; exact hk6, hall, h0⟩]; simp [h0]
        · rw [decide_eq_false (fun h => h0 h.2.2)]; simp [h0]
      have HC2 := Lib.hid hc; have HF := Lib.hid hf
      clear hc hf hz hall htake
      go_wp2_with fail
      go_at_call 61
      refine (HC2.out _).mono ?_
      rintro r w2 ⟨rfl, rfl⟩
      go_wp2
      go_ret
      exact ⟨ret_bool HF.out.symm, Below.refl _ _⟩
end Go.Proofs.Ytffehibdeogjeaa
