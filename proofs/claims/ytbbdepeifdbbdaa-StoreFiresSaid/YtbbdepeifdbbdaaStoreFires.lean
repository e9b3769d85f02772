/- The walk of StoreFires: what is fired and what stays are all entries. No condition. -/
import Derived.Test.YtbbdepeifdbbdaaStoreAlive
import Derived.Test.YtbbdepeifdbbdaaStoreTells
namespace Go.Proofs.Ytbbdepeifdbbdaa
open Go.RowKit Go.ChangeShapes Go.WideShapes Go.ChangeAt Go.Deep

theorem fire_sorted {l : List En} {mark : Int} (h : enchk l = 0) : fireE l mark = (l.take (partN l mark), l.drop (partN l mark), 0) := by
  obtain ⟨p1, p2⟩ := part_filter (mark := mark) (enchk_zero.1 h).2.2
  unfold fireE; rw [if_neg (by simp [h]), p1, p2]
theorem chk_drop {l : List En} (h : enchk l = 0) (k : Nat) : enchk (l.drop k) = 0 := by
  obtain ⟨h1, h2, h3⟩ := enchk_zero.1 h
  refine enchk_zero.2 ⟨?_, fun x hx => h2 x (List.mem_of_mem_drop hx), ss_sub h3 (List.drop_sublist k l)⟩
  rw [List.length_drop]; omega
/-- Firing again takes nothing out. -/
theorem fire_again {l : List En} {mark m2 : Int} (h : enchk l = 0) (hm : m2 ≤ mark) : fireE (l.drop (partN l mark)) m2 = ([], l.drop (partN l mark), 0) := by
  obtain ⟨p1, p2⟩ := part_filter (mark := mark) (enchk_zero.1 h).2.2
  unfold fireE
  rw [if_neg (by simp [chk_drop h])]
  have hall : ∀ x ∈ l.drop (partN l mark), endsE m2 x = false := fun x hx => by
    rw [p2] at hx
    have := (List.mem_filter.1 hx).2
    simp [endsE] at this ⊢
    omega
  rw [List.filter_eq_nil_iff.2 (fun x hx => by simp [hall x hx]), List.filter_eq_self.2 (fun x hx => by simp [hall x hx])]
/-- The first ones have ended, the others not. -/
theorem part_ends {l : List En} {mark : Int} (h : enchk l = 0) {k : Nat} {x : En} (hx : l[k]? = some x) : (decide (x.e ≤ mark)) = decide (k < partN l mark) := by
  obtain ⟨p1, p2⟩ := part_filter (mark := mark) (enchk_zero.1 h).2.2
  by_cases hk : k < partN l mark
  · have : x ∈ l.take (partN l mark) := List.mem_of_getElem? (show (l.take (partN l mark))[k]? = some x by rw [List.getElem?_take, if_pos hk]; exact hx)
    rw [p1] at this
    have := (List.mem_filter.1 this).2
    unfold endsE at this
    rw [this]
    simp [hk]
  · have : x ∈ l.drop (partN l mark) := List.mem_of_getElem? (show (l.drop (partN l mark))[k - partN l mark]? = some x by rw [List.getElem?_drop, show partN l mark + (k - partN l mark) = k by omega]; exact hx)
    rw [p2] at this
    have := (List.mem_filter.1 this).2
    unfold endsE at this
    simp at this
    simp [hk]
    omega
set_option maxHeartbeats 16000000 in
set_option maxRecDepth 100000 in
theorem storeFires_walk {w : World} (A : Option Addr) (c : Nat) (l : List En) (_lc : l.length ≤ c) (_lm : c ≤ maxLen) (_lw : ∀ x ∈ l, enany x) (lr : Rd enenc 11 w w.heap.size A l) (ln : A = none → c = 0)
    (mark : Int) (_wm : (Lit.int .i64 mark).wf = true) (earlier : Int) (_we : (Lit.int .i64 earlier).wf = true) :
    Calls Try.prog 13 #[.slice A l.length c, .int .i64 mark, .int .i64 earlier] w fun r w' => r = .returned (.bool true) ∧ Below w.heap.size w w' := by
  obtain ⟨i0, hi0, hz0, hz1, hz2⟩ := info_parts en_info
  obtain ⟨n, hn⟩ : ∃ n, l.length = n := ⟨_, rfl⟩
  rw [hn]
  obtain ⟨G, hG⟩ : ∃ G, G = greatE n := ⟨_, rfl⟩
  have g1 := fun W => great17_any A n c W
  rw [← hG] at g1
  have HG1 := Lib.hid g1
  have hL : Loc w [] := trivial
  clear g1
  cases G with
  | true =>
    clear hG
    go_enter Try.func13, Try.ntmps13
    go_wp2_with fail
    go_at_call 45
    refine (alive17 _).mono ?_
    rintro r w1 ⟨rfl, hb1⟩
    go_wp2_with fail
    go_at_call 40
    refine (HG1.out _).mono ?_
    rintro r w1 ⟨rfl, rfl⟩
    go_wp2
    go_ret
    exact ⟨rfl, (by repeat (first | with_reducible exact Below.refl _ _ | with_reducible assumption | (with_reducible exact Env.below (by assumption)) | (with_reducible refine below_new ?_ _) | (with_reducible refine below_drew ?_) | (with_reducible refine below_drewN ?_ _) | (with_reducible refine below_put ?_ ?_ _; rotate_left 1; (dsimp only; omega)) | (with_reducible refine below_then ?_ (by assumption))))⟩
  | false =>
    have hn4 : n ≤ 4002 := by unfold greatE at hG; have := of_decide_eq_false hG.symm; omega
    have HN := Lib.hid hn
    obtain ⟨C, hC⟩ : ∃ C, C = enchk l := ⟨_, rfl⟩
    have c2 := fun A c W (h : Rd enenc 11 W W.heap.size A l) => rstorecheck_any A c n l W hn (by omega) h
    rw [← hC] at c2
    have HC2 := Lib.hid c2
    clear c2 hG
    by_cases hC0 : C = 0
    · subst hC0
      have hfire := fire_sorted (mark := mark) hC.symm
      have hag := fire_again (mark := mark) (m2 := min mark earlier) hC.symm (by omega)
      have hends := fun (k : Nat) (x : En) (hx : l[k]? = some x) => part_ends (mark := mark) hC.symm hx
      obtain ⟨q, hq⟩ : ∃ q, partN l mark = q := ⟨_, rfl⟩
      have hqn : q ≤ n := by rw [← hq, ← hn]; exact partN_le l mark
      rw [hq] at hfire hag hends
      have f1 := fun W (h : Rd enenc 11 W W.heap.size A l) => fire_any A c n l mark W hn (by omega) h
      have f2 := fun A c W (h : Rd enenc 11 W W.heap.size A (l.drop q)) => fire_any A c (n - q) (l.drop q) (min mark earlier) W (by rw [List.length_drop, hn]) (by omega) h
      unfold FireP at f1 f2
      rw [hfire] at f1
      rw [hag] at f2
      have htk : (l.take q).length = q := by rw [List.length_take, hn]; omega
      have hdp : (l.drop q).length = n - q := by rw [List.length_drop, hn]
      obtain ⟨p, hp⟩ : ∃ p, p = n - q := ⟨_, rfl⟩
      rw [← hp] at hdp f2
      have HPN := Lib.hid (show q + p = n by omega)
      have HF1 := Lib.hid f1; have HF2 := Lib.hid f2; have HE := Lib.hid hends; have HT := Lib.hid htk; have HD := Lib.hid hdp; have HLN := Lib.hid ln
      clear f1 f2 hends htk hdp hfire hag hC hn ln hq hp
      go_enter Try.func13, Try.ntmps13
      go_wp2_with fail
      go_at_call 45
      refine (alive17 _).mono ?_
      rintro r w1 ⟨rfl, hb1⟩
      go_wp2_with fail
      go_at_call 40
      refine (HG1.out _).mono ?_
      rintro r w1 ⟨rfl, rfl⟩
      go_wp2_with fail
      go_at_call 44
      refine (HC2.out A c w1 (rd_grown lr hb1)).mono ?_
      rintro r w2 ⟨rfl, hb2⟩
      have hb12 := below_then hb1 hb2
      go_wp2_with fail
      go_at_call 22
      refine (HF1.out w2 (rd_grown lr hb12)).mono ?_
      rintro r w3 ⟨v1, v2, rfl, o1, o2, -, hb3⟩
      obtain ⟨A1, c1, rfl, -, z1⟩ := own_shape_z o1 HT.out
      obtain ⟨A2, c2, rfl, -, z2⟩ := own_shape_z o2 HD.out
      have r1 := Own.rd enenc_len o1
      have r2 := Own.rd enenc_len o2
      have hb13 := below_then hb12 hb3
      have hb3' : Below w3.heap.size w3 w3 := Below.refl _ _
      go_wp2_with fail
      go_at_call 22
      refine (HF2.out A2 c2 w3 r2).mono ?_
      rintro r w4 ⟨v3, v4, rfl, o3, o4, -, hb4⟩
      obtain ⟨A3, c3, rfl, -, z3⟩ := own_shape_z o3 (n := 0) rfl
      obtain ⟨A4, c4, rfl, -, z4⟩ := own_shape_z o4 HD.out
      have r4 := Own.rd enenc_len o4
      have hb14 := below_then hb13 hb4
      have Z1 := Lib.hid z1; have Z2 := Lib.hid z2
      clear z1 z2 z3 z4 o1 o2 o3 o4
      go_wp2_with (first | (at_builtin; refine wpList_append_more rfl (.tmp 51) (.tmp 52) 27 rfl w4.heap.size 43 i0 (.agg #[.int .i64 0, .int .i64 0, .int .i64 0, .int .i64 0, .int .i64 0, .int .i64 0, .int .i64 0, .int .i64 0, .int .i64 0, .int .i64 0, .int .i64 0]) 11 88 Try.underlying27 hi0 hz0 hz1 hz2 rfl (by decide) enenc enenc_len w4.heap.size 0 0 q [] (l.take q) (l.take q) rfl (own_empty (heap_alloc_new w4 (.cells #[] 43)) (Nat.le_refl _)) rfl A1 q c1 rfl HT.out Z1.out (rd_grown r1 (below_new (below_then hb3' hb4) _)) (enenc_one _) rfl HT.out (by unfold maxLen; omega) (by omega) (by simp) ?_; intro g5 cap5 w5 own5 hcap5 hg5 hb5; replace hb5 := (below_new (Below.refl _ _) _).trans hb5) | (at_builtin; refine wpList_append_more rfl (.tmp 53) (.tmp 54) 27 rfl w4.heap.size 43 i0 (.agg #[.int .i64 0, .int .i64 0, .int .i64 0, .int .i64 0, .int .i64 0, .int .i64 0, .int .i64 0, .int .i64 0, .int .i64 0, .int .i64 0, .int .i64 0]) 11 88 Try.underlying27 hi0 hz0 hz1 hz2 rfl (by decide) enenc enenc_len g5 cap5 q n (l.take q) (l.drop q) l rfl own5 HT.out A2 p c2 rfl HD.out Z2.out (rd_grown r2 (below_then (below_then hb3' hb4) hb5)) (enenc_one _) (List.take_append_drop q l) HN.out (by unfold maxLen; omega) (by omega) hb5.size ?_; intro g7 cap7 w7 own7 hcap7 hg7 hb7))
      have hb47 : Below w4.heap.size w4 w7 := hb5.trans hb7
      have rd7 := Own.rd enenc_len own7
      have hb17 := below_then hb14 hb47
      clear hb5 hb7 own5 own7
      go_at_call 32
      refine (rsame_yes _ _ cap7 c n l w7 HN.out (by omega) rd7 (rd_grown lr hb17)).mono ?_
      rintro r w8 ⟨rfl, hb8⟩
      go_wp2_with fail
      go_at_call 32
      refine (rsame_yes A4 A2 c4 c2 p _ w8 HD.out (by have := HPN.out; omega) (rd_grown r4 (below_then hb47 hb8)) (rd_grown r2 (below_then hb4 (below_then hb47 hb8)))).mono ?_
      rintro r w9 ⟨rfl, hb9⟩
      have hb19 := below_then hb17 (below_then hb8 hb9)
      have lr9 := rd_grown lr hb19
      clear hb1 hb2 hb12 hb13 hb14 hb17 hb8 hb9 hb47 hb4 hb3 hb3' r1 r2 r4 rd7
      go_wp2_with fail
      go_loopw [14] (fun iv wr => ∃ (k m : Nat), iv = .int .i64 k ∧ k ≤ n ∧ wr = w9.drewN m) (fun iv _ => n - (intOf iv).toNat)
      case atStart => exact ⟨0, 0, rfl, Nat.zero_le _, rfl⟩
      case round =>
        obtain ⟨k, m, rfl, hk, rfl⟩ := hrel
        by_cases hlt : k < n
        · obtain ⟨x, hx⟩ : ∃ x, l[k]? = some x := ⟨_, List.getElem?_eq_getElem (by rw [HN.out]; exact hlt)⟩
          have he := HE.out k x hx
          obtain ⟨b, off, rfl, hbb, f0, f1, f2, -⟩ := en_cells lr9 hx
          have d1 : decide ((k : Int) < (n : Int)) = true := by simp; omega
          have d1' : decide (k < n) = true := by simp [hlt]
          have k1 : (0 : Int) ≤ (k : Int) := by omega
          have k2 : (k : Int) < (n : Int) := by omega
          have e1 : IntKind.i64.wrap ((k : Int) + 1) = (k : Int) + 1 := IntWalk.i64_in _ (by omega)
          clear hx hlt
          by_cases hq : k < q
          · have d2 : decide ((k : Int) < (q : Int)) = true := by simp; omega
            have d2' : decide (k < q) = true := by simp [hq]
            have d3 : decide (x.e ≤ mark) = true := by rw [he, d2']
            have d4 : x.e ≤ mark := by simpa using d3
            clear he hq
            go_wp2
            go_roundw
            case rel => exact ⟨k + 1, _, by go_num, by omega, rfl⟩
            case measure => simp [intOf]; omega
          · have d2 : decide ((k : Int) < (q : Int)) = false := by simp; omega
            have d2' : decide (k < q) = false := by simp; omega
            have d3 : decide (x.e ≤ mark) = false := by rw [he, d2']
            have d4 : ¬ x.e ≤ mark := by simpa using d3
            clear he hq
            go_wp2
            go_roundw
            case rel => exact ⟨k + 1, _, by go_num, by omega, rfl⟩
            case measure => simp [intOf]; omega
        · obtain rfl : k = n := by omega
          have d1 : decide ((k : Int) < (k : Int)) = false := by simp
          have d1' : decide (k < k) = false := by simp
          clear hlt
          go_wp2
          go_ret
          exact ⟨rfl, below_drewN hb19 _⟩
    · have d0 : (C != 0) = true := by simp [hC0]
      clear hC hC0
      go_enter Try.func13, Try.ntmps13
      go_wp2_with fail
      go_at_call 45
      refine (alive17 _).mono ?_
      rintro r w1 ⟨rfl, hb1⟩
      go_wp2_with fail
      go_at_call 40
      refine (HG1.out _).mono ?_
      rintro r w1 ⟨rfl, rfl⟩
      go_wp2_with fail
      go_at_call 44
      refine (HC2.out A c w1 (rd_grown lr hb1)).mono ?_
      rintro r w2 ⟨rfl, hb2⟩
      go_wp2
      go_ret
      exact ⟨rfl, below_then hb1 hb2⟩
end Go.Proofs.Ytbbdepeifdbbdaa
