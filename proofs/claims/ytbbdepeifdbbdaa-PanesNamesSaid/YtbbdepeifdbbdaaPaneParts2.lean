/- The contracts of Parts, the program's and the reference's (chapter 19). Condition: numbers within their types. -/
import Derived.Test.YtbbdepeifdbbdaaPaneParts
import Derived.Test.YtbbdepeifdbbdaaStoreAdd
import Derived.Test.YtbbdepeifdbbdaaKitG
namespace Go.Proofs.Ytbbdepeifdbbdaa
open Go.RowKit

/-- The panes of a window, the first n of them. -/
def partsL (a g : Int) (n : Nat) : List (Int × Int) := (List.range n).map fun (i : Nat) => (a + (i : Int) * g, a + (i : Int) * g + g)
theorem partsL_len (a g : Int) (n : Nat) : (partsL a g n).length = n := by simp [partsL]
theorem partsL_succ (a g : Int) (n : Nat) : partsL a g (n + 1) = partsL a g n ++ [(a + (n : Int) * g, a + (n : Int) * g + g)] := by simp [partsL, List.range_succ]
def pparts (k ws we a b : Int) : List (Int × Int) × Int :=
  if slchk k ws we ≠ 0 then ([], slchk k ws we) else if (a < -1099511627776 ∨ 1099511627776 < a) ∨ a % we ≠ 0 ∨ b ≠ a + ws then ([], 2)
  else if 4000 < ws / (Int.gcd ws we : Nat) then ([], 4) else (partsL a (Int.gcd ws we : Nat) (ws / (Int.gcd ws we : Nat)).toNat, 0)
theorem slchk_zero {k s e : Int} : slchk k s e = 0 ↔ wok k s e ∧ k = 2 := by
  unfold slchk
  by_cases h : wok k s e
  · rw [if_neg (by simp [h])]
    by_cases hk : k = 2
    · subst hk; simp [h]
    · rw [if_neg hk]; simp [hk]
  · rw [if_pos h]; simp [h]
/-- What the size of panes is. -/
theorem gcd_facts {ws we : Int} (h1 : 0 < ws) (h2 : 0 < we) : ∃ (G n m : Nat), Int.gcd ws we = G ∧ 0 < G ∧ 0 < n ∧ 0 < m ∧ ws = (n : Int) * G ∧ we = (m : Int) * G ∧ ws / (G : Int) = n ∧ ws.tdiv (G : Int) = n := by
  obtain ⟨p, rfl⟩ : ∃ p : Nat, ws = p := ⟨ws.toNat, by omega⟩
  obtain ⟨q, rfl⟩ : ∃ q : Nat, we = q := ⟨we.toNat, by omega⟩
  have hG : 0 < Nat.gcd p q := Nat.gcd_pos_of_pos_left _ (by omega)
  obtain ⟨n, hn⟩ := Nat.gcd_dvd_left p q
  obtain ⟨m, hm⟩ := Nat.gcd_dvd_right p q
  have e1 : (p : Int) = (n : Int) * (Nat.gcd p q : Nat) := by
    have : p = n * Nat.gcd p q := by rw [Nat.mul_comm]; exact hn
    rw [← Int.natCast_mul, ← this]
  have e2 : (q : Int) = (m : Int) * (Nat.gcd p q : Nat) := by
    have : q = m * Nat.gcd p q := by rw [Nat.mul_comm]; exact hm
    rw [← Int.natCast_mul, ← this]
  have hn0 : 0 < n := by
    rcases Nat.eq_zero_or_pos n with h | h
    · rw [h, Nat.mul_zero] at hn; omega
    · exact h
  have hm0 : 0 < m := by
    rcases Nat.eq_zero_or_pos m with h | h
    · rw [h, Nat.mul_zero] at hm; omega
    · exact h
  have hdiv : (p : Int) / ((Nat.gcd p q : Nat) : Int) = n := by
    have e3 : (p : Int) / ((Nat.gcd p q : Nat) : Int) = ((n : Int) * (Nat.gcd p q : Nat)) / ((Nat.gcd p q : Nat) : Int) := by rw [← e1]
    rw [e3, Int.mul_ediv_cancel _ (by omega)]
  exact ⟨Nat.gcd p q, n, m, rfl, hG, hn0, hm0, e1, e2, hdiv, by rw [Int.tdiv_eq_ediv_of_nonneg (by omega)]; exact hdiv⟩
theorem sp_newP (w : World) (x y : Int) (t : TypeId) (g : Nat) (hg : g = w.heap.size) : ∀ j u, ([(x, y)].flatMap senc)[j]? = some u → (w.alloc (.cells #[.int .i64 x, .int .i64 y] t)).cell? ((⟨g, 0, none⟩ : Addr).add j) = some u := by
  subst hg
  intro j u hj
  rw [Addr.add_lit, World.cell?_alloc_at _ _ _ _ rfl]
  simpa [senc] using hj
theorem senc_oneP (l : List (Int × Int)) : ∀ u ∈ l.flatMap senc, u.oneCell' = true := by
  intro u hu
  obtain ⟨x, _, hx⟩ := List.mem_flatMap.1 hu
  simp [senc] at hx
  rcases hx with rfl | rfl <;> rfl
set_option maxHeartbeats 16000000 in
set_option maxRecDepth 100000 in
theorem parts_any (k ws we a b : Int) (hwe : (Lit.int .i64 we).wf = true) (w : World) :
    Calls Try.prog 27 #[.agg #[.int .u8 k, .int .i64 ws, .int .i64 we], .agg #[.int .i64 a, .int .i64 b]] w fun r w' => ∃ v, r = .returned (.tuple #[v, .int .i64 (pparts k ws we a b).2]) ∧ Own senc 2 w' w.heap.size 38 v (pparts k ws we a b).1 ∧ Below w.heap.size w w' := by
  obtain ⟨i0, hi0, hz0, hz1, hz2⟩ := info_parts span_info
  have hs := fun W => sliding_any k ws we hwe W
  obtain ⟨C, hC⟩ : ∃ C, C = slchk k ws we := ⟨_, rfl⟩
  rw [← hC] at hs
  have HSL := Lib.hid hs
  clear hs
  have hl2 : Loc ((w.alloc (.cells #[.int .u8 k, .int .i64 ws, .int .i64 we] 23)).alloc (.cells #[.int .i64 a, .int .i64 b] 38)) [(w.heap.size + 1, [.int .i64 a, .int .i64 b]), (w.heap.size, [.int .u8 k, .int .i64 ws, .int .i64 we])] := by
    have h := ((Loc.nil w).new [.int .u8 k, .int .i64 ws, .int .i64 we] 23).new [.int .i64 a, .int .i64 b] 38
    rw [World.size_alloc] at h
    exact h
  have hb2 : Below w.heap.size w ((w.alloc (.cells #[.int .u8 k, .int .i64 ws, .int .i64 we] 23)).alloc (.cells #[.int .i64 a, .int .i64 b] 38)) := (by repeat (first | with_reducible exact Below.refl _ _ | with_reducible assumption | (with_reducible exact Env.below (by assumption)) | (with_reducible refine below_new ?_ _) | (with_reducible refine below_drew ?_) | (with_reducible refine below_drewN ?_ _) | (with_reducible refine below_put ?_ ?_ _; rotate_left 1; (dsimp only; omega)) | (with_reducible refine below_then ?_ (by assumption))))
  by_cases hC0 : C = 0
  · obtain ⟨hw, rfl⟩ := slchk_zero.1 (hC.symm.trans hC0)
    have hof := fun W => slof_any 2 ws we a hwe W
    obtain ⟨⟨s1, s2⟩, hw2⟩ := hw
    have hw3 : 1 ≤ we ∧ we ≤ ws ∧ ws ≤ 16 * we := by omega
    have hwok : wok 2 ws we := ⟨⟨s1, s2⟩, hw2⟩
    by_cases ht : a < -1099511627776 ∨ 1099511627776 < a
    · have hres : pparts 2 ws we a b = ([], 2) := by unfold pparts; rw [if_neg (by rw [← hC]; simp [hC0]), if_pos (.inl ht)]
      have hwf : wof 2 ws we a = ([], 16) := by unfold wof; rw [if_neg (by simp [hwok]), if_neg (by decide), if_pos ht]
      rw [hwf] at hof
      rw [hres]
      have HOF := Lib.hid hof
      subst hC0
      clear hof hwf hres hC ht hwok hw2 hw3 s1 s2
      go_enter Try.func27, Try.ntmps27
      go_wp2_with fail
      go_at_call 65
      refine (HSL.out _).mono ?_
      rintro r w3 ⟨rfl, hb3⟩
      have hl3 := hl2.below hb3
      have hF := hl3
      (repeat unfold Loc at hF)
      go_wp2_with fail
      go_at_call 36
      refine (HOF.out _).mono ?_
      rintro r w4 ⟨v4, rfl, own4, hb4⟩
      clear hF
      go_wp2
      go_ret2
      exact ⟨.slice none 0 0, rfl, Own.nil _ _ _, below_then (below_then hb2 hb3) hb4⟩
    · have hwf : wof 2 ws we a = (wspans 2 ws we a, 0) := wof_ok hwok (by decide) (by omega) (by omega)
      rw [hwf] at hof
      have hmem := mem_wspans hwok (by decide) (show -1099511627776 ≤ a by omega) (by omega) (a, b)
      unfold evW at hmem
      simp only [show ¬ (2 : Int) = 1 by decide, if_false] at hmem
      have hln := wspans_16 (t := a) hwok (by decide)
      obtain ⟨ln, hlen⟩ : ∃ ln, (wspans 2 ws we a).length = ln := ⟨_, rfl⟩
      rw [hlen] at hln
      have hct := fun A c W h => spcontains_any A c ln (wspans 2 ws we a) a b W hlen (by omega) h
      have HOF := Lib.hid hof; have HLEN := Lib.hid hlen
      by_cases hin : a % we = 0 ∧ b = a + ws
      · have hd : decide ((a, b) ∈ wspans 2 ws we a) = true := by rw [decide_eq_true_iff, hmem]; omega
        rw [hd] at hct
        have HCT := Lib.hid hct
        obtain ⟨G, n, m, g1, g2, g3, g4, g5, g6, g7, g8⟩ := gcd_facts (show 0 < ws by omega) (show 0 < we by omega)
        have hdv := fun W => divisor_any ws we W (by omega) (by omega) s2 (by omega)
        rw [g1] at hdv
        have HDV := Lib.hid hdv
        have hres : pparts 2 ws we a b = if 4000 < (n : Int) then ([], 4) else (partsL a (G : Int) n, 0) := by
          unfold pparts
          rw [if_neg (by rw [← hC]; simp [hC0]), if_neg (by rintro (h | h | h); exact ht h; exact h hin.1; exact h hin.2), g1, g7]
          simp
        have hbe : b = a + (n : Int) * G := by rw [hin.2, g5]
        have hGle : (n : Int) * G ≤ 1073741824 := by rw [← g5]; exact s2
        have HRES := Lib.hid hres; have HB := Lib.hid hbe; have HQ := Lib.hid g8
        have hG0 : ((G : Nat) : Int) ≠ 0 := by omega
        have hGG : (G : Int) ≤ 1073741824 := by
          have : (1 : Int) * G ≤ n * G := Int.mul_le_mul_of_nonneg_right (by omega) (by omega)
          omega
        have hn0 : (n : Int) ≤ 1073741824 := by
          have : (n : Int) * 1 ≤ n * G := Int.mul_le_mul_of_nonneg_left (by omega) (by omega)
          omega
        have e0 : IntKind.i64.wrap (n : Int) = (n : Int) := IntWalk.i64_in _ (by omega)
        subst hC0
        have ha1 : -1099511627776 ≤ a := by omega
        have ha2 : a ≤ 1099511627776 := by omega
        clear hof hwf hres hC ht hwok hw2 hct hdv hlen hmem hbe hd hin g1 g7 g5 g6 g8
        go_enter Try.func27, Try.ntmps27
        go_wp2_with fail
        go_at_call 65
        refine (HSL.out _).mono ?_
        rintro r w3 ⟨rfl, hb3⟩
        have hl3 := hl2.below hb3
        have hF := hl3
        (repeat unfold Loc at hF)
        go_wp2_with fail
        go_at_call 36
        refine (HOF.out _).mono ?_
        rintro r w4 ⟨v4, rfl, own4, hb4⟩
        obtain ⟨A4, c4, rfl, -⟩ := own_shape_n own4 HLEN.out
        have hl4 := hl3.below hb4
        clear hF
        have hF := hl4
        (repeat unfold Loc at hF)
        go_wp2_with fail
        go_at_call 66
        refine (HCT.out A4 c4 _ (Own.rd senc_len own4)).mono ?_
        rintro r w5 ⟨rfl, hb5⟩
        have hl5 := hl4.below hb5
        have hb05 := below_then (below_then (below_then hb2 hb3) hb4) hb5
        clear hF hl2 hl3 hl4 hb2 hb3 hb4 hb5 own4 hln
        have hF := hl5
        (repeat unfold Loc at hF)
        go_wp2_with fail
        go_at_call 64
        refine (HDV.out _).mono ?_
        rintro r w6 ⟨rfl, hb6⟩
        have hl6 := hl5.below hb6
        have hb06 := below_then hb05 hb6
        clear hF hl5 hb05 hb6
        have hF := hl6
        (repeat unfold Loc at hF)
        have hq := HQ.out
        by_cases h4 : 4000 < (n : Int)
        · have hres := HRES.out
          rw [if_pos h4] at hres
          have HR2 := Lib.hid hres
          have d4 : decide (4000 < (n : Int)) = true := by simp [h4]
          have d4' : decide (4000 < n) = true := by simp; omega
          clear hres
          go_wp2
          go_ret2
          exact ⟨.slice none 0 0, by rw [HR2.out]; rfl, by rw [HR2.out]; exact Own.nil _ _ _, hb06⟩
        · have hres := HRES.out
          rw [if_neg h4] at hres
          have HR2 := Lib.hid hres
          have d4 : decide (4000 < (n : Int)) = false := by simp; omega
          have d4' : decide (4000 < n) = false := by simp; omega
          clear hres
          go_wp2_with fail
          go_loopw [10, 11] (fun ov at_ wr => ∃ (k : Nat) (p : Int), at_ = .int .i64 p ∧ k ≤ n ∧ p = a + (k : Int) * G ∧ Own senc 2 wr (w.heap.size + 2) 38 ov (partsL a (G : Int) k) ∧ Loc wr [(w.heap.size + 1, [.int .i64 a, .int .i64 b]), (w.heap.size, [.int .u8 2, .int .i64 ws, .int .i64 we])] ∧ Below w.heap.size w wr) (fun _ at_ _ => (b - intOf at_).toNat)
          case atStart => exact ⟨0, a, rfl, Nat.zero_le _, by simp, Own.nil _ _ _, hl6, hb06⟩
          case round =>
            clear hq hF
            obtain ⟨k, p, rfl, hk, hp, own, hl, hb⟩ := hrel
            have hF := hl
            (repeat unfold Loc at hF)
            have hPL := partsL_succ a (G : Int) k
            have hlen := partsL_len a (G : Int) k
            rw [← hp] at hPL
            have HP := Lib.hid hp; have HPL := Lib.hid hPL; have HLK := Lib.hid hlen
            by_cases hlt : k < n
            · have hkG : (k : Int) * G + G ≤ n * G := by
                have : ((k : Int) + 1) * G ≤ n * G := Int.mul_le_mul_of_nonneg_right (by omega) (by omega)
                rw [Int.add_mul, Int.one_mul] at this
                exact this
              have hk0 : 0 ≤ (k : Int) * G := Int.mul_nonneg (by omega) (by omega)
              have hb0 := HB.out
              have hpb : p + G ≤ b := by omega
              have hp1 : -1099511627776 ≤ p ∧ p + G ≤ 1100585369600 := by omega
              have d5 : decide (p < b) = true := by simp; omega
              have d6 : p < b := by omega
              have e2 : IntKind.i64.wrap (p + G) = p + G := IntWalk.i64_in _ (by omega)
              have hnp : p + G = a + ((k + 1 : Nat) : Int) * G := by rw [HP.out]; simp only [Int.natCast_add, Int.natCast_one, Int.add_mul, Int.one_mul]; omega
              have HNP := Lib.hid hnp
              clear hkG hk0 hb0 hp hPL hlen hnp
              go_wp2_with (at_builtin; refine wpList_append_fs rfl _ _ 57 rfl (w.heap.size + 2) 38 i0 (.agg #[.int .i64 0, .int .i64 0]) 2 16 Try.underlying57 hi0 hz0 hz1 hz2 rfl (by decide) senc senc_len _ _ (p, p + G) rfl (own.alloc (.cells #[.int .i64 p, .int .i64 (p + G)] 38)) ⟨wr.heap.size, 0, none⟩ 1 rfl (sp_newP wr p (p + G) 38 wr.heap.size rfl) (senc_oneP [(p, p + G)]) (by rw [HLK.out]; unfold maxLen; omega) (by rw [HLK.out]; omega) (by rw [World.size_alloc]; have := hl.1; omega) ?_; intro v' w7 own7 hgr7 hsf)
              have hlu := fun j hj => (World.ownsRow.lt own j hj).1
              have hbn : Below wr.heap.size wr (wr.alloc (.cells #[.int .i64 p, .int .i64 (p + G)] 38)) := below_new (Below.refl _ _) _
              have hb7 : Below w.heap.size w w7 := (hb.trans (hbn.mono hb.size)).grown hgr7 (Nat.le_trans hb.size hbn.size) (fun j hj => by have := hlu j hj; omega)
              have hl7 := Loc.grown hgr7 (fun q hq => by simp at hq; rcases hq with rfl | rfl <;> (intro e; have h := hlu _ e.symm; dsimp only at h; omega)) (hl.below hbn)
              rw [← HPL.out] at own7
              clear hgr7 hsf hlu hbn hb hl own hF
              have hF := hl7
              (repeat unfold Loc at hF)
              go_wp2
              go_roundw
              case rel => exact ⟨k + 1, p + G, rfl, by omega, HNP.out, own7, hl7, hb7⟩
              case measure => simp [intOf]; omega
            · obtain rfl : k = n := by omega
              have hb0 := HB.out
              have hpe : p = b := by omega
              subst hpe
              have d5 : decide (p < p) = false := by simp
              clear hlt hp hb0 hPL
              go_wp2
              go_ret2
              exact ⟨_, by rw [HR2.out]; rfl, by rw [HR2.out]; exact own.mono (by omega), hb⟩
      · have hd : decide ((a, b) ∈ wspans 2 ws we a) = false := by rw [decide_eq_false_iff_not, hmem]; omega
        rw [hd] at hct
        have HCT := Lib.hid hct
        have hres : pparts 2 ws we a b = ([], 2) := by unfold pparts; rw [if_neg (by rw [← hC]; simp [hC0]), if_pos (.inr (by by_cases h : a % we = 0; exact .inr (fun hb => hin ⟨h, hb⟩); exact .inl h))]
        rw [hres]
        subst hC0
        clear hof hwf hres hC ht hwok hw2 hw3 s1 s2 hct hlen hmem hin hd
        go_enter Try.func27, Try.ntmps27
        go_wp2_with fail
        go_at_call 65
        refine (HSL.out _).mono ?_
        rintro r w3 ⟨rfl, hb3⟩
        have hl3 := hl2.below hb3
        have hF := hl3
        (repeat unfold Loc at hF)
        go_wp2_with fail
        go_at_call 36
        refine (HOF.out _).mono ?_
        rintro r w4 ⟨v4, rfl, own4, hb4⟩
        obtain ⟨A4, c4, rfl, -⟩ := own_shape_n own4 HLEN.out
        have hl4 := hl3.below hb4
        clear hF
        have hF := hl4
        (repeat unfold Loc at hF)
        go_wp2_with fail
        go_at_call 66
        refine (HCT.out A4 c4 _ (Own.rd senc_len own4)).mono ?_
        rintro r w5 ⟨rfl, hb5⟩
        clear hF
        go_wp2
        go_ret2
        exact ⟨.slice none 0 0, rfl, Own.nil _ _ _, below_then (below_then (below_then hb2 hb3) hb4) hb5⟩
  · have d0 : (C != 0) = true := by simp [hC0]
    have hres : pparts k ws we a b = ([], C) := by unfold pparts; rw [← hC, if_pos hC0]
    rw [hres]
    clear hC hC0 hres
    go_enter Try.func27, Try.ntmps27
    go_wp2_with fail
    go_at_call 65
    refine (HSL.out _).mono ?_
    rintro r w3 ⟨rfl, hb3⟩
    go_wp2
    go_ret2
    exact ⟨.slice none 0 0, rfl, Own.nil _ _ _, below_then hb2 hb3⟩
end Go.Proofs.Ytbbdepeifdbbdaa
