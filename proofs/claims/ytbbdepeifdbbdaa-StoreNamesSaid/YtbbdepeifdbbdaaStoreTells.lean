/- The walk of StoreTells: the program's and the reference's Check, Add and Fire return the same. No condition. -/
import Derived.Test.YtbbdepeifdbbdaaStoreRAdd
import Derived.Test.YtbbdepeifdbbdaaStoreRFire
import Derived.Test.YtbbdepeifdbbdaaEnSame
import Derived.Test.YtbbdepeifdbbdaaStoreLaw
namespace Go.Proofs.Ytbbdepeifdbbdaa
open Go.RowKit Go.ChangeShapes Go.WideShapes Go.ChangeAt Go.Deep

def enany (_ : En) : Prop := True
theorem enenc_dec (vs : List Value) (h : FitsL [some .i64, some .i64, some .i64, some .i64, some .i64, some .i64, some .i64, some .i64, some .i64, some .i64, some .i64] vs) : ∃ x, vs = enenc x ∧ enany x := by
  obtain ⟨n1, v1, rfl, _, n2, v2, rfl, _, n3, v3, rfl, _, n4, v4, rfl, _, n5, v5, rfl, _, n6, v6, rfl, _, n7, v7, rfl, _, n8, v8, rfl, _, n9, v9, rfl, _, n10, v10, rfl, _, n11, v11, rfl, _, rfl⟩ := h
  exact ⟨⟨n1, n2, n3, n4, n5, n6, n7, n8, n9, n10, n11⟩, rfl, trivial⟩
theorem great17_any (A : Option Addr) (n c : Nat) (w : World) : Calls Try.prog 40 #[.slice A n c] w fun e w' => e = .returned (.bool (greatE n)) ∧ w = w' := by
  go_enter Try.func40, Try.ntmps40
  go_wp2
  all_goals (go_ret; exact ⟨ret_bool (by unfold greatE; first | (rw [decide_eq_decide]; omega) | (simp; omega) | grind), rfl⟩)
theorem rsame_yes (A A' : Option Addr) (c c' n : Nat) (l : List En) (w : World) (hn : l.length = n) (hb : n ≤ 4611686018427387904) (hl : Rd enenc 11 w w.heap.size A l) (hm : Rd enenc 11 w w.heap.size A' l) :
    Calls Try.prog 32 #[.slice A n c, .slice A' n c'] w fun e w' => e = .returned (.bool true) ∧ Below w.heap.size w w' := by
  have h := rsameE_any A A' c c' n n l l w hl hm hn hn hb
  have e : entsEq l l = true := by unfold entsEq; simp
  rw [e] at h
  exact h
theorem own_rowAt {w : World} {base B : Nat} {e : TypeId} {A : Option Addr} {n c : Nat} {l : List En} (h : Own enenc 11 w base e (.slice A n c) l) (hB : w.heap.size ≤ B) : RowAt A n c B := by
  rcases h.2 with ⟨h', h0⟩ | ⟨g, cap, cur, h', _, hg, hc, _⟩
  · injection h' with h1 h2 h3
    exact .inl ⟨h1, h2, h3⟩
  · injection h' with h1 h2 h3
    subst h1 h2 h3
    refine .inr ⟨g, 0, rfl, ?_, hc⟩
    rcases Nat.lt_or_ge g w.heap.size with hlt | hge
    · omega
    · rw [Array.getElem?_eq_none hge] at hg; cases hg
theorem fireE_len (l : List En) (mark : Int) : (fireE l mark).1.length ≤ l.length ∧ (fireE l mark).2.1.length ≤ l.length := by
  unfold fireE
  split
  · simp
  · exact ⟨List.length_filter_le _ _, List.length_filter_le _ _⟩
set_option maxHeartbeats 16000000 in
set_option maxRecDepth 100000 in
theorem storeTells_walk {w : World} (A : Option Addr) (c : Nat) (l : List En) (_lc : l.length ≤ c) (_lm : c ≤ maxLen) (_lw : ∀ x ∈ l, enany x) (lr : Rd enenc 11 w w.heap.size A l) (ln : A = none → c = 0)
    (wk : Int) (_wwk : (Lit.int .u8 wk).wf = true) (ws : Int) (_wws : (Lit.int .i64 ws).wf = true) (we : Int) (wwe : (Lit.int .i64 we).wf = true)
    (rk : Int) (_wrk : (Lit.int .i64 rk).wf = true) (rt : Int) (_wrt : (Lit.int .i64 rt).wf = true) (rv : Int) (wrv : (Lit.int .i64 rv).wf = true)
    (side : Int) (_wsd : (Lit.int .i64 side).wf = true) (mark : Int) (_wmk : (Lit.int .i64 mark).wf = true) :
    Calls Try.prog 9 #[.slice A l.length c, .agg #[.int .u8 wk, .int .i64 ws, .int .i64 we], .agg #[.int .i64 rk, .int .i64 rt, .int .i64 rv], .int .i64 side, .int .i64 mark] w fun r w' => r = .returned (.bool true) ∧ Below w.heap.size w w' := by
  obtain ⟨i0, hi0, hz0, hz1, hz2⟩ := info_parts en_info
  obtain ⟨n, hn⟩ : ∃ n, l.length = n := ⟨_, rfl⟩
  rw [hn]
  obtain ⟨G, hG⟩ : ∃ G, G = greatE n := ⟨_, rfl⟩
  have g1 := fun W => great17_any A n c W
  rw [← hG] at g1
  have HG1 := Lib.hid g1
  have hL : Loc w [] := trivial
  clear g1
  cases G with
  | true =>
    clear hG
    go_enter Try.func9, Try.ntmps9
    go_wp2_with fail
    go_at_call 40
    refine (HG1.out _).mono ?_
    rintro r w1 ⟨rfl, rfl⟩
    go_wp2
    go_ret
    exact ⟨rfl, (by repeat (first | with_reducible exact Below.refl _ _ | with_reducible assumption | (with_reducible exact Env.below (by assumption)) | (with_reducible refine below_new ?_ _) | (with_reducible refine below_drew ?_) | (with_reducible refine below_drewN ?_ _) | (with_reducible refine below_put ?_ ?_ _; rotate_left 1; (dsimp only; omega)) | (with_reducible refine below_then ?_ (by assumption))))⟩
  | false =>
    have hn4 : n ≤ 4002 := by unfold greatE at hG; have := of_decide_eq_false hG.symm; omega
    have HN := Lib.hid hn
    obtain ⟨E, hE⟩ : ∃ E, E = (addE l wk ws we rk rt rv side).2 := ⟨_, rfl⟩
    obtain ⟨L, hLL⟩ : ∃ L, L = (addE l wk ws we rk rt rv side).1 := ⟨_, rfl⟩
    have hLlen : L.length ≤ 4000 := by rw [hLL]; exact addE_len _ _ _ _ _ _ _ _
    obtain ⟨F, hF0⟩ : ∃ F, F = (fireE l mark).2.2 := ⟨_, rfl⟩
    obtain ⟨M1, hM1⟩ : ∃ M1, M1 = (fireE l mark).1 := ⟨_, rfl⟩
    obtain ⟨M2, hM2⟩ : ∃ M2, M2 = (fireE l mark).2.1 := ⟨_, rfl⟩
    have hMlen := fireE_len l mark
    rw [← hM1, ← hM2, hn] at hMlen
    have a1 := fun A c W hz (h : Rd enenc 11 W W.heap.size A l) => add_any A c n l wk ws we rk rt rv side wwe W hn hz (by omega) h
    have a2 := fun A c W hz (h : Rd enenc 11 W W.heap.size A l) => radd_any A c n l wk ws we rk rt rv side wwe wrv W hn hz (by omega) h
    have f1 := fun A c W (h : Rd enenc 11 W W.heap.size A l) => fire_any A c n l mark W hn (by omega) h
    have f2 := fun A c W (h0 : RowAt A n c W.heap.size) (h : Rd enenc 11 W W.heap.size A l) => rfire_any A c n l mark W hn (by omega) h0 h
    have c1 := fun A c W (h : Rd enenc 11 W W.heap.size A l) => storecheck_any A c n l W hn (by omega) h
    have c2 := fun A c W (h : Rd enenc 11 W W.heap.size A l) => rstorecheck_any A c n l W hn (by omega) h
    unfold AddP at a1 a2
    unfold FireP at f1
    unfold RFireP at f2
    rw [← hE, ← hLL] at a1 a2
    rw [← hF0, ← hM1, ← hM2] at f1 f2
    obtain ⟨C, hC⟩ : ∃ C, C = enchk l := ⟨_, rfl⟩
    rw [← hC] at c1 c2
    obtain ⟨p, hp⟩ : ∃ p, L.length = p := ⟨_, rfl⟩
    obtain ⟨q1, hq1⟩ : ∃ q, M1.length = q := ⟨_, rfl⟩
    obtain ⟨q2, hq2⟩ : ∃ q, M2.length = q := ⟨_, rfl⟩
    rw [hp] at hLlen
    rw [hq1, hq2] at hMlen
    have HA1 := Lib.hid a1; have HA2 := Lib.hid a2; have HF1 := Lib.hid f1; have HF2 := Lib.hid f2; have HC1 := Lib.hid c1; have HC2 := Lib.hid c2
    have HP := Lib.hid hp; have HQ1 := Lib.hid hq1; have HQ2 := Lib.hid hq2; have HLN := Lib.hid ln
    clear a1 a2 f1 f2 c1 c2 hE hLL hF0 hM1 hM2 hC hp hq1 hq2 hG ln hn
    go_enter Try.func9, Try.ntmps9
    go_wp2_with fail
    go_at_call 40
    refine (HG1.out _).mono ?_
    rintro r w1 ⟨rfl, rfl⟩
    have hl2 : Loc ((w.alloc (.cells #[.int .u8 wk, .int .i64 ws, .int .i64 we] 23)).alloc (.cells #[.int .i64 rk, .int .i64 rt, .int .i64 rv] 31)) [(w.heap.size + 1, [.int .i64 rk, .int .i64 rt, .int .i64 rv]), (w.heap.size, [.int .u8 wk, .int .i64 ws, .int .i64 we])] := by
      have h := ((Loc.nil w).new [.int .u8 wk, .int .i64 ws, .int .i64 we] 23).new [.int .i64 rk, .int .i64 rt, .int .i64 rv] 31
      rw [World.size_alloc] at h
      exact h
    have hb2 : Below w.heap.size w ((w.alloc (.cells #[.int .u8 wk, .int .i64 ws, .int .i64 we] 23)).alloc (.cells #[.int .i64 rk, .int .i64 rt, .int .i64 rv] 31)) := (by repeat (first | with_reducible exact Below.refl _ _ | with_reducible assumption | (with_reducible exact Env.below (by assumption)) | (with_reducible refine below_new ?_ _) | (with_reducible refine below_drew ?_) | (with_reducible refine below_drewN ?_ _) | (with_reducible refine below_put ?_ ?_ _; rotate_left 1; (dsimp only; omega)) | (with_reducible refine below_then ?_ (by assumption))))
    go_wp2_with (at_builtin; refine wpList_append_copy rfl (.tmp 24) (.tmp 25) 27 rfl (w.heap.size + 1 + 1) 43 i0 (.agg #[.int .i64 0, .int .i64 0, .int .i64 0, .int .i64 0, .int .i64 0, .int .i64 0, .int .i64 0, .int .i64 0, .int .i64 0, .int .i64 0, .int .i64 0]) 11 88 Try.underlying27 hi0 hz0 hz1 hz2 rfl (by decide) enenc enenc_len (w.heap.size + 1 + 1) 0 l rfl (own_empty (by have h := heap_alloc_new ((w.alloc (.cells #[.int .u8 wk, .int .i64 ws, .int .i64 we] 23)).alloc (.cells #[.int .i64 rk, .int .i64 rt, .int .i64 rv] 31)) (.cells #[] 43); simpa using h) (Nat.le_refl _)) A n c rfl HN.out HLN.out (rd_grown lr (by repeat (first | with_reducible exact Below.refl _ _ | with_reducible assumption | (with_reducible exact Env.below (by assumption)) | (with_reducible refine below_new ?_ _) | (with_reducible refine below_drew ?_) | (with_reducible refine below_drewN ?_ _) | (with_reducible refine below_put ?_ ?_ _; rotate_left 1; (dsimp only; omega)) | (with_reducible refine below_then ?_ (by assumption))))) (enenc_one l) (by unfold maxLen; omega) (by omega) (by simp) ?_; intro g3 cap3 w3 own3 hcap3 hg3 hb3; have hl3 : Loc w3 [(w.heap.size + 1, [.int .i64 rk, .int .i64 rt, .int .i64 rv]), (w.heap.size, [.int .u8 wk, .int .i64 ws, .int .i64 we])] := ((hl2.old (.cells #[] 43)).belowB hb3 (by simp; omega)); have hF := hl3; (repeat unfold Loc at hF))
    have hb3' : Below w.heap.size w w3 := (below_new hb2 (.cells #[] 43)).trans (hb3.mono (by omega))
    have rd3 : Rd enenc 11 w3 w3.heap.size (some ⟨g3, 0, none⟩) l := Own.rd enenc_len own3
    have lr3 := rd_grown lr hb3'
    have ra3 := own_rowAt own3 (Nat.le_refl _)
    clear hb3 hl2 hb2 own3
    go_at_call 19
    refine (HA1.out A c w3 HLN.out lr3).mono ?_
    rintro r w4 ⟨v4, rfl, own4, hb4⟩
    obtain ⟨A4, c4, rfl, -, z4⟩ := own_shape_z own4 HP.out
    have rd4 := Own.rd enenc_len own4
    have hl4 := hl3.below hb4
    clear hF
    have hF := hl4
    (repeat unfold Loc at hF)
    go_wp2_with fail
    go_at_call 41
    refine (HA2.out (some ⟨g3, 0, none⟩) cap3 w4 (fun h => by cases h) (rd_grown rd3 hb4)).mono ?_
    rintro r w5 ⟨v5, rfl, own5, hb5⟩
    obtain ⟨A5, c5, rfl, -, z5⟩ := own_shape_z own5 HP.out
    have rd5 := Own.rd enenc_len own5
    clear hF
    go_wp2_with fail
    go_at_call 22
    have hb35 := below_then hb4 hb5
    refine (HF1.out A c w5 (rd_grown lr3 hb35)).mono ?_
    rintro r w6 ⟨v6, v6', rfl, own6, own6', -, hb6⟩
    obtain ⟨A6, c6, rfl, -, z6⟩ := own_shape_z own6 HQ1.out
    obtain ⟨A7, c7, rfl, -, z7⟩ := own_shape_z own6' HQ2.out
    have rd6 := Own.rd enenc_len own6
    have rd7 := Own.rd enenc_len own6'
    have hb36 := below_then hb35 hb6
    go_wp2_with fail
    go_at_call 42
    refine (HF2.out (some ⟨g3, 0, none⟩) cap3 w6 (by rcases ra3 with h | ⟨b, off, h1, h2, h3⟩; exact .inl h; exact .inr ⟨b, off, h1, Nat.lt_of_lt_of_le h2 hb36.size, h3⟩) (rd_grown rd3 hb36)).mono ?_
    rintro r w7 ⟨v8, v8', rfl, own8, own8', hb7⟩
    obtain ⟨A8, c8, rfl, -, z8⟩ := own_shape_z own8 HQ1.out
    obtain ⟨A9, c9, rfl, -, z9⟩ := own_shape_z own8' HQ2.out
    have rd8 := Own.rd enenc_len own8
    have rd9 := Own.rd enenc_len own8'
    have hb37 := below_then hb36 hb7
    go_wp2_with fail
    go_at_call 32
    refine (rsame_yes A4 A5 c4 c5 p L w7 HP.out (by omega) (rd_grown rd4 (below_then hb5 (below_then hb6 hb7))) (rd_grown rd5 (below_then hb6 hb7))).mono ?_
    rintro r w8 ⟨rfl, hb8⟩
    go_wp2_with fail
    go_at_call 32
    refine (rsame_yes A6 A8 c6 c8 q1 M1 w8 HQ1.out (by omega) (rd_grown rd6 (below_then hb7 hb8)) (rd_grown rd8 hb8)).mono ?_
    rintro r w9 ⟨rfl, hb9⟩
    go_wp2_with fail
    go_at_call 32
    refine (rsame_yes A7 A9 c7 c9 q2 M2 w9 HQ2.out (by omega) (rd_grown rd7 (below_then hb7 (below_then hb8 hb9))) (rd_grown rd9 (below_then hb8 hb9))).mono ?_
    rintro r w10 ⟨rfl, hb10⟩
    have hb310 := below_then hb37 (below_then hb8 (below_then hb9 hb10))
    go_wp2_with fail
    go_at_call 43
    refine (HC1.out A c w10 (rd_grown lr3 hb310)).mono ?_
    rintro r w11 ⟨rfl, hb11⟩
    go_wp2_with fail
    go_at_call 44
    refine (HC2.out (some ⟨g3, 0, none⟩) cap3 w11 (rd_grown rd3 (below_then hb310 hb11))).mono ?_
    rintro r w12 ⟨rfl, hb12⟩
    have hb312 := below_then hb310 (below_then hb11 hb12)
    go_wp2_with fail
    go_at_call 32
    refine (rsame_yes A (some ⟨g3, 0, none⟩) c cap3 n l w12 HN.out (by omega) (rd_grown lr3 hb312) (rd_grown rd3 hb312)).mono ?_
    rintro r w13 ⟨rfl, hb13⟩
    go_wp2
    go_ret
    exact ⟨rfl, below_then hb3' (below_then hb312 hb13)⟩
end Go.Proofs.Ytbbdepeifdbbdaa
