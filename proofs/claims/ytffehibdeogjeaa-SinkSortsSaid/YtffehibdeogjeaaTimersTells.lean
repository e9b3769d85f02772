/- The walk of the law TimersTells (chapter 18). No condition. -/
import Derived.Test.YtffehibdeogjeaaTimersAlive
import Derived.Laws.AppendOwnNone
namespace Go.Proofs.Ytffehibdeogjeaa
open Go.RowKit Go.ChangeShapes Go.WideShapes Go.ChangeAt Go.Deep

def tmok (t : Tm) : Prop := (Lit.int .i64 t.s).wf = true ∧ (Lit.int .i64 t.e).wf = true ∧ (Lit.int .i64 t.k).wf = true
theorem tenc_dec (vs : List Value) (h : FitsL [some .i64, some .i64, some .i64] vs) : ∃ x, vs = tenc x ∧ tmok x := by
  obtain ⟨n, vs', rfl, hw, m, vs2, rfl, hw2, k, vs3, rfl, hw3, rfl⟩ := h
  exact ⟨⟨n, m, k⟩, rfl, hw, hw2, hw3⟩
theorem tsame_yes (A A' : Option Addr) (c c' n : Nat) (l : List Tm) (w : World) (hl : Rd tenc 3 w w.heap.size A l) (hm : Rd tenc 3 w w.heap.size A' l) (hn : l.length ≤ 4611686018427387904) (hln : l.length = n) :
    Calls Try.prog 25 #[.slice A n c, .slice A' n c'] w fun e w' => e = .returned (.bool true) ∧ Below w.heap.size w w' := by
  have h := tsame_any A A' c c' l l w hl hm hn
  rw [hln] at h
  simpa [tmsEq] using h
theorem own_shape_n {α : Type} {enc : α → List Value} {sz n : Nat} {w : World} {base : Nat} {e : TypeId} {v : Value} {l : List α} (h : Own enc sz w base e v l) (hn : l.length = n) : ∃ A c, v = .slice A n c ∧ n ≤ c := by
  subst hn
  rcases h.2 with ⟨h', h0⟩ | ⟨g, cap, cur, h', _, _, hc, _⟩
  · exact ⟨none, 0, by rw [h', h0], by omega⟩
  · exact ⟨_, _, h', hc⟩
theorem own_some {α : Type} {enc : α → List Value} {sz : Nat} {w : World} {base : Nat} {e : TypeId} {v : Value} {l : List α} (h : Own enc sz w base e v l) (hv : v ≠ .slice none 0 0) : ∃ g cap, v = .slice (some ⟨g, 0, none⟩) l.length cap ∧ l.length ≤ cap ∧ g < w.heap.size := by
  rcases h.2 with ⟨h', _⟩ | ⟨g, cap, cur, h', hb, hg, hc, _⟩
  · exact absurd h' hv
  · refine ⟨g, cap, h', hc, ?_⟩
    rcases Nat.lt_or_ge g w.heap.size with hlt | hge
    · exact hlt
    · rw [Array.getElem?_eq_none hge] at hg; cases hg

section
variable {H : Type} {enc : TypeId × Value → H} {P : Program} {w : World} {base : Nat} {spare : Nat → Bool} {held : Bool}
theorem open_none {t e : TypeId} {A : Option Addr} {n c : Nat} {d : DataW H} {p : List MemPlace} (hu : P.underlying t = some (.slice e)) (h : DataW.Trod enc P w base spare held t (.slice A n c) d p) (hA : A = none) : c = 0 := by
  obtain ⟨fuel, hf⟩ := h
  rcases open_slice hu hf with ⟨hcs, _⟩ | ⟨a, len', cap', m, n', D, Pl, hcs, _⟩
  · simp only [Value.cells, List.cons.injEq, Value.slice.injEq, and_true] at hcs
    exact hcs.2.2
  · simp only [Value.cells, List.cons.injEq, Value.slice.injEq, and_true] at hcs
    rw [hA] at hcs
    cases hcs.1
end

/-- A list copied behind an empty one that was made: it lies at an address. -/
theorem wpList_append_copy {P : Program} {w : World} {ops : Array Oper} {rest : List Oper} {o : Oper} {a : Act} {Q : Exit → Act → World → Prop} (hgd : o.guard = none) (s x : Operand) (t : TypeId)
    (ho : o.op = .call { callee := .builtin .append, args := #[s, x], argTypes := #[t, t] })
    (base : Nat) (e : TypeId) (i : TypeInfo) (z : Value) (size bytes : Nat) (ht : P.underlying t = some (.slice e)) (hi : P.info? e = some i) (hz : i.zero = some z)
    (hsize : i.size = size) (hby : i.bytes = bytes) (hzs : z.cells.size = size) (hsz : 0 < size)
    {α : Type} (enc : α → List Value) (henc : ∀ y, (enc y).length = size) (g0 c0 : Nat) (ys : List α) (hs : a.eval s = .slice (some ⟨g0, 0, none⟩) 0 c0) (hown : Own enc size w base e (.slice (some ⟨g0, 0, none⟩) 0 c0) ([] : List α))
    (A : Option Addr) (n c : Nat) (hx : a.eval x = .slice A n c) (hnl : ys.length = n) (hc : A = none → c = 0) (hrd : Rd enc size w w.heap.size A ys) (h1 : ∀ u ∈ ys.flatMap enc, u.oneCell' = true)
    (h63 : n ≤ maxLen) (hbytes : n * bytes ≤ 140737488355328) (hbase : base ≤ w.heap.size)
    (h : ∀ g cap w', Own enc size w' base e (.slice (some ⟨g, 0, none⟩) n cap) ys → n ≤ cap → g < w'.heap.size → Below base w w' → wpList P ops Q rest (a.put o.dst (.slice (some ⟨g, 0, none⟩) n cap)) w') : wpList P ops Q (o :: rest) a w := by
  cases A with
  | none =>
    obtain rfl := hc rfl
    have hy : ys = [] := by
      rcases List.eq_nil_or_concat ys with h | ⟨l', x, h⟩
      · exact h
      · obtain ⟨_, _, e, _⟩ := hrd (by rw [h]; simp)
        cases e
    subst hy
    obtain rfl : n = 0 := hnl.symm
    obtain ⟨g, cap, hv, hcc, hg⟩ := own_some hown (by simp)
    simp only [Value.slice.injEq, Option.some.injEq, Addr.mk.injEq, and_true] at hv
    obtain ⟨rfl, -, rfl⟩ := hv
    exact wpList_append_own_none hgd s x t ho base e i size ht hi _ 0 [] hs hown hx (h _ _ _ hown hcc hg (Below.refl _ _))
  | some ad =>
    refine wpList_plain hgd fun K hK => ?_
    have hnews : ∀ j u, (ys.flatMap enc)[j]? = some u → w.cell? (ad.add j) = some u := fun j u hj => by
      by_cases hy : ys = []
      · subst hy; simp at hj
      · obtain ⟨b, off, e, _, _⟩ := hrd hy
        simp only [Option.some.injEq] at e
        subst e
        exact rd_flat henc hrd j u hj
    obtain ⟨v', w', hrun, r1, r2, r3⟩ := run_append_own (P := P) w base t o.type e i z size bytes ht hi hz hsize hby hzs hsz _ 0 [] hown ad n c (ys.flatMap enc) (by rw [flat_length henc, hnl]) hnews h1 (by omega) (by rw [Nat.zero_add]; exact hbytes) hbase
    have hv' : v' ≠ .slice none 0 0 := fun e => by have := (r3.1 e).1; cases this
    have hown' : Own enc size w' base e v' ys := by unfold Own; simpa [hnl] using r1
    obtain ⟨g, cap, rfl, hcc, hg⟩ := own_some hown' hv'
    rw [hnl] at hown' hcc
    unfold Oper.wp
    simp [execOp, ho, resolve, invoke, builtin, hs, hx, hrun, Result.andThen]
    refine hK _ _ ?_
    rw [hnl]
    exact h _ _ _ hown' hcc hg (below_of_grown r2 (fun k hk => (World.ownsRow.lt hown k hk).1) hbase)

theorem tuntil_len (l : List Tm) (mark : Int) : (tuntil l mark).1.length + (tuntil l mark).2.1.length ≤ l.length := by
  by_cases h : tck l = 0
  · have hv := (tck_zero h).1
    have := (untilL_facts tsto t0 (fun t => decide (t.e ≤ mark)) l.length l (Nat.le_refl _) hv.2).2.2.2.2
    unfold tuntil
    rw [if_neg (by rw [h]; simp)]
    exact Nat.le_of_eq this
  · unfold tuntil
    rw [if_pos h]
    simp

set_option maxHeartbeats 8000000 in
set_option maxRecDepth 100000 in
theorem timersTells_walk {w : World} (A : Option Addr) (c : Nat) (l : List Tm) (_lc : l.length ≤ c) (_lm : c ≤ maxLen) (_lw : ∀ x ∈ l, tmok x) (lr : Rd tenc 3 w w.heap.size A l) (ln : A = none → c = 0)
    (s : Int) (_ws : (Lit.int .i64 s).wf = true) (e : Int) (_we : (Lit.int .i64 e).wf = true) (k : Int) (_wk : (Lit.int .i64 k).wf = true) (mark : Int) (_wm : (Lit.int .i64 mark).wf = true) :
    Calls Try.prog 5 #[.slice A l.length c, .agg #[.int .i64 s, .int .i64 e, .int .i64 k], .int .i64 mark] w fun r w' => r = .returned (.bool true) ∧ Below w.heap.size w w' := by
  obtain ⟨n, hn'⟩ : ∃ n, n = l.length := ⟨_, rfl⟩
  by_cases hg : 120 < n ∧ n < 3999 ∨ 4002 < n
  · have b1 : decide (120 < n ∧ n < 3999 ∨ 4002 < n) = true := by simp [hg]
    rw [← hn']
    have hL : Loc w [] := trivial
    clear hn' hg
    go_enter Try.func5, Try.ntmps5
    go_wp2_with (first
      | (go_at_call 30; refine (rgreat_any _ _ _ _).mono ?_; rw [b1]; rintro r w1 ⟨rfl, rfl⟩))
    go_ret
    exact ⟨rfl, (by repeat (first | with_reducible exact Below.refl _ _ | with_reducible assumption | (with_reducible exact Env.below (by assumption)) | (with_reducible refine below_new ?_ _) | (with_reducible refine below_drew ?_) | (with_reducible refine below_drewN ?_ _) | (with_reducible refine below_put ?_ ?_ _; rotate_left 1; (dsimp only; omega)) | (with_reducible refine below_then ?_ (by assumption))))⟩
  · have b1 : decide (120 < n ∧ n < 3999 ∨ 4002 < n) = false := by simp; omega
    have hn : n ≤ 4002 := by omega
    rw [hn'] at hn
    obtain ⟨P, p, hP⟩ : ∃ P p, tpush l ⟨s, e, k⟩ = (P, p) := ⟨_, _, rfl⟩
    obtain ⟨T, R, q, hQ⟩ : ∃ T R q, tpopl l = (T, R, q) := ⟨_, _, _, rfl⟩
    obtain ⟨U, V, u, hU⟩ : ∃ U V u, tuntil l mark = (U, V, u) := ⟨_, _, _, rfl⟩
    obtain ⟨t1, t2, t3⟩ := T
    obtain ⟨z, hz⟩ : ∃ z, z = tck l := ⟨_, rfl⟩
    have hck := fun W (h : Rd tenc 3 W W.heap.size A l) => tcheck_any A c l W (by omega) h
    have hpu := fun W (h : Rd tenc 3 W W.heap.size A l) => push_any A c l ⟨s, e, k⟩ W (by omega) h
    have hpo := fun W (h : Rd tenc 3 W W.heap.size A l) => tpop_any A c l W (by omega) h
    have hun := fun W (h : Rd tenc 3 W W.heap.size A l) => tuntil_any A c l mark W (by omega) h
    have rck := fun g c W (h : Rd tenc 3 W W.heap.size (some ⟨g, 0, none⟩) l) => rtcheck_any (some ⟨g, 0, none⟩) c l W (by omega) h
    have rpu := fun g c W (hb : g < W.heap.size) (h : Rd tenc 3 W W.heap.size (some ⟨g, 0, none⟩) l) => rpush_any g 0 c l ⟨s, e, k⟩ W (by omega) hb h
    have rpo := fun g c W (hc : l.length ≤ c) (hb : g < W.heap.size) (h : Rd tenc 3 W W.heap.size (some ⟨g, 0, none⟩) l) => rpop_any g 0 c l W hc (by omega) hb h
    have run := fun g c W (hb : g < W.heap.size) (h : Rd tenc 3 W W.heap.size (some ⟨g, 0, none⟩) l) => runtil_any g 0 c l mark W (by omega) hb h
    rw [hP] at hpu rpu
    rw [hQ] at hpo rpo
    rw [hU] at hun run
    rw [← hz] at hck rck
    rw [← hn'] at hck hpu hpo hun rck rpu rpo run hn ⊢
    have HCK := Lib.hid hck; have HPU := Lib.hid hpu; have HPO := Lib.hid hpo; have HUN := Lib.hid hun
    have RCK := Lib.hid rck; have RPU := Lib.hid rpu; have RPO := Lib.hid rpo; have RUN := Lib.hid run
    have HN := Lib.hid hn'; have LN := Lib.hid ln
    have plen : P.length ≤ 4003 := by have := tpush_len l ⟨s, e, k⟩; rw [hP] at this; simp at this; omega
    have rlen : R.length ≤ 4003 := by have h : (tpopl l).2.1.length ≤ l.length := (by unfold tpopl; split; simp; split; simp; simp [popL_length]); rw [hQ] at h; simp at h; omega
    have ulen : U.length ≤ 4003 ∧ V.length ≤ 4003 := by have h := tuntil_len l mark; rw [hU] at h; simp at h; omega
    obtain ⟨ulen, vlen⟩ := ulen
    clear hck hpu hpo hun rck rpu rpo run hn' hP hQ hU hz hg ln
    obtain ⟨i0, hi0, hz0, hz1, hz2⟩ := info_parts tm_info
    have hL : Loc w [] := trivial
    go_enter Try.func5, Try.ntmps5
    go_wp2_with (first
      | (go_at_call 30; refine (rgreat_any _ _ _ _).mono ?_; rw [b1]; rintro r w1 ⟨rfl, rfl⟩)
      | (at_builtin; refine wpList_append_copy rfl (.tmp 26) (.tmp 27) 22 rfl (w.alloc (.cells #[.int .i64 s, .int .i64 e, .int .i64 k] 34)).heap.size 34 i0 (.agg #[.int .i64 0, .int .i64 0, .int .i64 0]) 3 24 Try.underlying22 hi0 hz0 hz1 hz2 rfl (by decide) tenc tenc_len (w.heap.size + 1) 0 l rfl (own_empty (by have h := heap_alloc_new (w.alloc (.cells #[.int .i64 s, .int .i64 e, .int .i64 k] 34)) (.cells #[] 34); rw [World.size_alloc] at h; exact h) (by simp)) A n c rfl HN.out.symm LN.out (rd_grown lr (by repeat (first | with_reducible exact Below.refl _ _ | with_reducible assumption | (with_reducible exact Env.below (by assumption)) | (with_reducible refine below_new ?_ _) | (with_reducible refine below_drew ?_) | (with_reducible refine below_drewN ?_ _) | (with_reducible refine below_put ?_ ?_ _; rotate_left 1; (dsimp only; omega)) | (with_reducible refine below_then ?_ (by assumption))))) (tenc_one l) (by unfold maxLen; omega) (by omega) (by simp) ?_; intro g cap w2 hown2 hcap hg2 hb2; replace hb2 := (below_new (Below.refl _ _) _).trans hb2; have hrd2 := Own.rd tenc_len hown2; replace hL := (by with_reducible first | exact hL.below hb2 | exact (hL.new _ _).below hb2 | exact ((hL.new _ _).new _ _).below hb2 | exact (((hL.new _ _).new _ _).new _ _).below hb2 | exact ((((hL.new _ _).new _ _).new _ _).new _ _).below hb2); (repeat rw [World.size_alloc] at hL); have hF := hL; (repeat unfold Loc at hF))
      | (go_at_call 28; refine (HPU.out _ (rd_grown lr (by repeat (first | with_reducible exact Below.refl _ _ | with_reducible assumption | (with_reducible exact Env.below (by assumption)) | (with_reducible refine below_new ?_ _) | (with_reducible refine below_drew ?_) | (with_reducible refine below_drewN ?_ _) | (with_reducible refine below_put ?_ ?_ _; rotate_left 1; (dsimp only; omega)) | (with_reducible refine below_then ?_ (by assumption)))))).mono ?_; rintro r w3 ⟨v3, rfl, hown3, hb3⟩; obtain ⟨A3, c3, rfl, -⟩ := own_shape_n hown3 rfl; replace hL := (by with_reducible first | exact hL.below hb3 | exact (hL.new _ _).below hb3 | exact ((hL.new _ _).new _ _).below hb3 | exact (((hL.new _ _).new _ _).new _ _).below hb3 | exact ((((hL.new _ _).new _ _).new _ _).new _ _).below hb3); (repeat rw [World.size_alloc] at hL); have hF := hL; (repeat unfold Loc at hF))
      | (go_at_call 31; refine (RPU.out _ _ _ (Nat.lt_of_lt_of_le hg2 (Below.size (by exact (by repeat (first | with_reducible exact Below.refl _ _ | with_reducible assumption | (with_reducible exact Env.below (by assumption)) | (with_reducible refine below_new ?_ _) | (with_reducible refine below_drew ?_) | (with_reducible refine below_drewN ?_ _) | (with_reducible refine below_put ?_ ?_ _; rotate_left 1; (dsimp only; omega)) | (with_reducible refine below_then ?_ (by assumption)))) : Below w2.heap.size w2 _))) (rd_grown hrd2 (by repeat (first | with_reducible exact Below.refl _ _ | with_reducible assumption | (with_reducible exact Env.below (by assumption)) | (with_reducible refine below_new ?_ _) | (with_reducible refine below_drew ?_) | (with_reducible refine below_drewN ?_ _) | (with_reducible refine below_put ?_ ?_ _; rotate_left 1; (dsimp only; omega)) | (with_reducible refine below_then ?_ (by assumption)))))).mono ?_; rintro r w4 ⟨v4, rfl, hown4, hb4⟩; obtain ⟨A4, c4, rfl, -⟩ := own_shape_n hown4 rfl; replace hL := (by with_reducible first | exact hL.below hb4 | exact (hL.new _ _).below hb4 | exact ((hL.new _ _).new _ _).below hb4 | exact (((hL.new _ _).new _ _).new _ _).below hb4 | exact ((((hL.new _ _).new _ _).new _ _).new _ _).below hb4); (repeat rw [World.size_alloc] at hL); have hF := hL; (repeat unfold Loc at hF))
      | (go_at_call 32; refine (HPO.out _ (rd_grown lr (by repeat (first | with_reducible exact Below.refl _ _ | with_reducible assumption | (with_reducible exact Env.below (by assumption)) | (with_reducible refine below_new ?_ _) | (with_reducible refine below_drew ?_) | (with_reducible refine below_drewN ?_ _) | (with_reducible refine below_put ?_ ?_ _; rotate_left 1; (dsimp only; omega)) | (with_reducible refine below_then ?_ (by assumption)))))).mono ?_; rintro r w5 ⟨v5, rfl, hown5, hb5⟩; obtain ⟨A5, c5, rfl, -⟩ := own_shape_n hown5 rfl; replace hL := (by with_reducible first | exact hL.below hb5 | exact (hL.new _ _).below hb5 | exact ((hL.new _ _).new _ _).below hb5 | exact (((hL.new _ _).new _ _).new _ _).below hb5 | exact ((((hL.new _ _).new _ _).new _ _).new _ _).below hb5); (repeat rw [World.size_alloc] at hL); have hF := hL; (repeat unfold Loc at hF))
      | (go_at_call 33; refine (RPO.out _ _ _ hcap (Nat.lt_of_lt_of_le hg2 (Below.size (by exact (by repeat (first | with_reducible exact Below.refl _ _ | with_reducible assumption | (with_reducible exact Env.below (by assumption)) | (with_reducible refine below_new ?_ _) | (with_reducible refine below_drew ?_) | (with_reducible refine below_drewN ?_ _) | (with_reducible refine below_put ?_ ?_ _; rotate_left 1; (dsimp only; omega)) | (with_reducible refine below_then ?_ (by assumption)))) : Below w2.heap.size w2 _))) (rd_grown hrd2 (by repeat (first | with_reducible exact Below.refl _ _ | with_reducible assumption | (with_reducible exact Env.below (by assumption)) | (with_reducible refine below_new ?_ _) | (with_reducible refine below_drew ?_) | (with_reducible refine below_drewN ?_ _) | (with_reducible refine below_put ?_ ?_ _; rotate_left 1; (dsimp only; omega)) | (with_reducible refine below_then ?_ (by assumption)))))).mono ?_; rintro r w6 ⟨v6, rfl, hown6, hb6⟩; obtain ⟨A6, c6, rfl, -⟩ := own_shape_n hown6 rfl; replace hL := (by with_reducible first | exact hL.below hb6 | exact (hL.new _ _).below hb6 | exact ((hL.new _ _).new _ _).below hb6 | exact (((hL.new _ _).new _ _).new _ _).below hb6 | exact ((((hL.new _ _).new _ _).new _ _).new _ _).below hb6); (repeat rw [World.size_alloc] at hL); have hF := hL; (repeat unfold Loc at hF))
      | (go_at_call 23; refine (HUN.out _ (rd_grown lr (by repeat (first | with_reducible exact Below.refl _ _ | with_reducible assumption | (with_reducible exact Env.below (by assumption)) | (with_reducible refine below_new ?_ _) | (with_reducible refine below_drew ?_) | (with_reducible refine below_drewN ?_ _) | (with_reducible refine below_put ?_ ?_ _; rotate_left 1; (dsimp only; omega)) | (with_reducible refine below_then ?_ (by assumption)))))).mono ?_; rintro r w7 ⟨v7, u7, rfl, hown7, hownu7, hb7⟩; obtain ⟨A7, c7, rfl, -⟩ := own_shape_n hown7 rfl; obtain ⟨B7, d7, rfl, -⟩ := own_shape_n hownu7 rfl; replace hL := (by with_reducible first | exact hL.below hb7 | exact (hL.new _ _).below hb7 | exact ((hL.new _ _).new _ _).below hb7 | exact (((hL.new _ _).new _ _).new _ _).below hb7 | exact ((((hL.new _ _).new _ _).new _ _).new _ _).below hb7); (repeat rw [World.size_alloc] at hL); have hF := hL; (repeat unfold Loc at hF))
      | (go_at_call 34; refine (RUN.out _ _ _ (Nat.lt_of_lt_of_le hg2 (Below.size (by exact (by repeat (first | with_reducible exact Below.refl _ _ | with_reducible assumption | (with_reducible exact Env.below (by assumption)) | (with_reducible refine below_new ?_ _) | (with_reducible refine below_drew ?_) | (with_reducible refine below_drewN ?_ _) | (with_reducible refine below_put ?_ ?_ _; rotate_left 1; (dsimp only; omega)) | (with_reducible refine below_then ?_ (by assumption)))) : Below w2.heap.size w2 _))) (rd_grown hrd2 (by repeat (first | with_reducible exact Below.refl _ _ | with_reducible assumption | (with_reducible exact Env.below (by assumption)) | (with_reducible refine below_new ?_ _) | (with_reducible refine below_drew ?_) | (with_reducible refine below_drewN ?_ _) | (with_reducible refine below_put ?_ ?_ _; rotate_left 1; (dsimp only; omega)) | (with_reducible refine below_then ?_ (by assumption)))))).mono ?_; rintro r w8 ⟨v8, u8, rfl, hown8, hownu8, hb8⟩; obtain ⟨A8, c8, rfl, -⟩ := own_shape_n hown8 rfl; obtain ⟨B8, d8, rfl, -⟩ := own_shape_n hownu8 rfl; replace hL := (by with_reducible first | exact hL.below hb8 | exact (hL.new _ _).below hb8 | exact ((hL.new _ _).new _ _).below hb8 | exact (((hL.new _ _).new _ _).new _ _).below hb8 | exact ((((hL.new _ _).new _ _).new _ _).new _ _).below hb8); (repeat rw [World.size_alloc] at hL); have hF := hL; (repeat unfold Loc at hF)))
    go_at_call 25
    refine (tsame_yes _ _ _ _ _ P _ (rd_grown (Own.rd tenc_len hown3) (by repeat (first | with_reducible exact Below.refl _ _ | with_reducible assumption | (with_reducible exact Env.below (by assumption)) | (with_reducible refine below_new ?_ _) | (with_reducible refine below_drew ?_) | (with_reducible refine below_drewN ?_ _) | (with_reducible refine below_put ?_ ?_ _; rotate_left 1; (dsimp only; omega)) | (with_reducible refine below_then ?_ (by assumption))))) (rd_grown (Own.rd tenc_len hown4) (by repeat (first | with_reducible exact Below.refl _ _ | with_reducible assumption | (with_reducible exact Env.below (by assumption)) | (with_reducible refine below_new ?_ _) | (with_reducible refine below_drew ?_) | (with_reducible refine below_drewN ?_ _) | (with_reducible refine below_put ?_ ?_ _; rotate_left 1; (dsimp only; omega)) | (with_reducible refine below_then ?_ (by assumption))))) (by omega) rfl).mono ?_
    rintro r w9 ⟨rfl, hb9⟩
    replace hL := (by with_reducible first | exact hL.below hb9 | exact (hL.new _ _).below hb9 | exact ((hL.new _ _).new _ _).below hb9 | exact (((hL.new _ _).new _ _).new _ _).below hb9 | exact ((((hL.new _ _).new _ _).new _ _).new _ _).below hb9); (repeat rw [World.size_alloc] at hL); have hF := hL; (repeat unfold Loc at hF)
    go_wp2_with fail
    go_at_call 25
    refine (tsame_yes _ _ _ _ _ R _ (rd_grown (Own.rd tenc_len hown5) (by repeat (first | with_reducible exact Below.refl _ _ | with_reducible assumption | (with_reducible exact Env.below (by assumption)) | (with_reducible refine below_new ?_ _) | (with_reducible refine below_drew ?_) | (with_reducible refine below_drewN ?_ _) | (with_reducible refine below_put ?_ ?_ _; rotate_left 1; (dsimp only; omega)) | (with_reducible refine below_then ?_ (by assumption))))) (rd_grown (Own.rd tenc_len hown6) (by repeat (first | with_reducible exact Below.refl _ _ | with_reducible assumption | (with_reducible exact Env.below (by assumption)) | (with_reducible refine below_new ?_ _) | (with_reducible refine below_drew ?_) | (with_reducible refine below_drewN ?_ _) | (with_reducible refine below_put ?_ ?_ _; rotate_left 1; (dsimp only; omega)) | (with_reducible refine below_then ?_ (by assumption))))) (by omega) rfl).mono ?_
    rintro r w10 ⟨rfl, hb10⟩
    replace hL := (by with_reducible first | exact hL.below hb10 | exact (hL.new _ _).below hb10 | exact ((hL.new _ _).new _ _).below hb10 | exact (((hL.new _ _).new _ _).new _ _).below hb10 | exact ((((hL.new _ _).new _ _).new _ _).new _ _).below hb10); (repeat rw [World.size_alloc] at hL); have hF := hL; (repeat unfold Loc at hF)
    go_wp2_with fail
    go_at_call 25
    refine (tsame_yes _ _ _ _ _ U _ (rd_grown (Own.rd tenc_len hown7) (by repeat (first | with_reducible exact Below.refl _ _ | with_reducible assumption | (with_reducible exact Env.below (by assumption)) | (with_reducible refine below_new ?_ _) | (with_reducible refine below_drew ?_) | (with_reducible refine below_drewN ?_ _) | (with_reducible refine below_put ?_ ?_ _; rotate_left 1; (dsimp only; omega)) | (with_reducible refine below_then ?_ (by assumption))))) (rd_grown (Own.rd tenc_len hown8) (by repeat (first | with_reducible exact Below.refl _ _ | with_reducible assumption | (with_reducible exact Env.below (by assumption)) | (with_reducible refine below_new ?_ _) | (with_reducible refine below_drew ?_) | (with_reducible refine below_drewN ?_ _) | (with_reducible refine below_put ?_ ?_ _; rotate_left 1; (dsimp only; omega)) | (with_reducible refine below_then ?_ (by assumption))))) (by omega) rfl).mono ?_
    rintro r w11 ⟨rfl, hb11⟩
    replace hL := (by with_reducible first | exact hL.below hb11 | exact (hL.new _ _).below hb11 | exact ((hL.new _ _).new _ _).below hb11 | exact (((hL.new _ _).new _ _).new _ _).below hb11 | exact ((((hL.new _ _).new _ _).new _ _).new _ _).below hb11); (repeat rw [World.size_alloc] at hL); have hF := hL; (repeat unfold Loc at hF)
    go_wp2_with fail
    go_at_call 25
    refine (tsame_yes _ _ _ _ _ V _ (rd_grown (Own.rd tenc_len hownu7) (by repeat (first | with_reducible exact Below.refl _ _ | with_reducible assumption | (with_reducible exact Env.below (by assumption)) | (with_reducible refine below_new ?_ _) | (with_reducible refine below_drew ?_) | (with_reducible refine below_drewN ?_ _) | (with_reducible refine below_put ?_ ?_ _; rotate_left 1; (dsimp only; omega)) | (with_reducible refine below_then ?_ (by assumption))))) (rd_grown (Own.rd tenc_len hownu8) (by repeat (first | with_reducible exact Below.refl _ _ | with_reducible assumption | (with_reducible exact Env.below (by assumption)) | (with_reducible refine below_new ?_ _) | (with_reducible refine below_drew ?_) | (with_reducible refine below_drewN ?_ _) | (with_reducible refine below_put ?_ ?_ _; rotate_left 1; (dsimp only; omega)) | (with_reducible refine below_then ?_ (by assumption))))) (by omega) rfl).mono ?_
    rintro r w12 ⟨rfl, hb12⟩
    replace hL := (by with_reducible first | exact hL.below hb12 | exact (hL.new _ _).below hb12 | exact ((hL.new _ _).new _ _).below hb12 | exact (((hL.new _ _).new _ _).new _ _).below hb12 | exact ((((hL.new _ _).new _ _).new _ _).new _ _).below hb12); (repeat rw [World.size_alloc] at hL); have hF := hL; (repeat unfold Loc at hF)
    go_wp2_with fail
    go_at_call 24
    refine (HCK.out _ (rd_grown lr (by repeat (first | with_reducible exact Below.refl _ _ | with_reducible assumption | (with_reducible exact Env.below (by assumption)) | (with_reducible refine below_new ?_ _) | (with_reducible refine below_drew ?_) | (with_reducible refine below_drewN ?_ _) | (with_reducible refine below_put ?_ ?_ _; rotate_left 1; (dsimp only; omega)) | (with_reducible refine below_then ?_ (by assumption)))))).mono ?_
    rintro r w13 ⟨rfl, hb13⟩
    replace hL := (by with_reducible first | exact hL.below hb13 | exact (hL.new _ _).below hb13 | exact ((hL.new _ _).new _ _).below hb13 | exact (((hL.new _ _).new _ _).new _ _).below hb13 | exact ((((hL.new _ _).new _ _).new _ _).new _ _).below hb13); (repeat rw [World.size_alloc] at hL); have hF := hL; (repeat unfold Loc at hF)
    go_wp2_with fail
    go_at_call 22
    refine (RCK.out _ _ _ (rd_grown hrd2 (by repeat (first | with_reducible exact Below.refl _ _ | with_reducible assumption | (with_reducible exact Env.below (by assumption)) | (with_reducible refine below_new ?_ _) | (with_reducible refine below_drew ?_) | (with_reducible refine below_drewN ?_ _) | (with_reducible refine below_put ?_ ?_ _; rotate_left 1; (dsimp only; omega)) | (with_reducible refine below_then ?_ (by assumption)))))).mono ?_
    rintro r w14 ⟨rfl, hb14⟩
    replace hL := (by with_reducible first | exact hL.below hb14 | exact (hL.new _ _).below hb14 | exact ((hL.new _ _).new _ _).below hb14 | exact (((hL.new _ _).new _ _).new _ _).below hb14 | exact ((((hL.new _ _).new _ _).new _ _).new _ _).below hb14); (repeat rw [World.size_alloc] at hL); have hF := hL; (repeat unfold Loc at hF)
    go_wp2_with fail
    go_at_call 25
    refine (tsame_yes _ _ _ _ _ l _ (rd_grown lr (by repeat (first | with_reducible exact Below.refl _ _ | with_reducible assumption | (with_reducible exact Env.below (by assumption)) | (with_reducible refine below_new ?_ _) | (with_reducible refine below_drew ?_) | (with_reducible refine below_drewN ?_ _) | (with_reducible refine below_put ?_ ?_ _; rotate_left 1; (dsimp only; omega)) | (with_reducible refine below_then ?_ (by assumption))))) (rd_grown hrd2 (by repeat (first | with_reducible exact Below.refl _ _ | with_reducible assumption | (with_reducible exact Env.below (by assumption)) | (with_reducible refine below_new ?_ _) | (with_reducible refine below_drew ?_) | (with_reducible refine below_drewN ?_ _) | (with_reducible refine below_put ?_ ?_ _; rotate_left 1; (dsimp only; omega)) | (with_reducible refine below_then ?_ (by assumption))))) (by rw [← HN.out]; omega) HN.out.symm).mono ?_
    rintro r w15 ⟨rfl, hb15⟩
    go_wp2
    go_ret
    exact ⟨rfl, (by repeat (first | with_reducible exact Below.refl _ _ | with_reducible assumption | (with_reducible exact Env.below (by assumption)) | (with_reducible refine below_new ?_ _) | (with_reducible refine below_drew ?_) | (with_reducible refine below_drewN ?_ _) | (with_reducible refine below_put ?_ ?_ _; rotate_left 1; (dsimp only; omega)) | (with_reducible refine below_then ?_ (by assumption))))⟩
end Go.Proofs.Ytffehibdeogjeaa
