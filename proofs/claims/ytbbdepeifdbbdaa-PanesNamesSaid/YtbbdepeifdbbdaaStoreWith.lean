/- The contract of the reference's With of a store (chapter 17). Condition: at most 2^40 entries, counts that stay below 2^61. -/
import Derived.Test.YtbbdepeifdbbdaaStoreBoth
import Derived.Test.YtbbdepeifdbbdaaStoreFire
import Derived.Test.YtbbdepeifdbbdaaKitH
namespace Go.Proofs.Ytbbdepeifdbbdaa
open Go.RowKit

def mB : Value → Nat
  | .bool true => 1
  | _ => 0
theorem fit_step {x y : En} (hx : enw x) (hy : enw y) : (fitE x && fitE (enJ x y)) = fitE (enJ x y) := by
  have h := foldJ_mono hx (ys := [y]) (by simpa using hy)
  simp only [List.foldl_cons, List.foldl_nil] at h
  cases hf : fitE (enJ x y) with
  | false => simp
  | true =>
    unfold fitE at hf ⊢
    simp only [decide_eq_true_eq, Bool.and_true] at hf ⊢
    omega
/-- What With leaves. -/
def WithP (sess : Bool) (l : List En) (x : En) (w : World) (r : Ending) (w' : World) : Prop :=
  ∃ v, r = .returned (.tuple #[v, .bool (withE sess l x).2]) ∧ Own enenc 11 w' w.heap.size 43 v (withE sess l x).1 ∧ Below w.heap.size w w'
theorem hitE_k {sess : Bool} {x y : En} (h : (y.k == x.k) = false) : hitE sess x y = false := by
  unfold hitE
  have : ¬ y.k = x.k := by simpa using h
  simp [this]
theorem hitE_s {sess : Bool} {x y : En} (h : (y.k == x.k) = true) (h2 : (decide (y.s = x.s ∧ y.e = x.e)) = true) : hitE sess x y = true := by
  unfold hitE
  have : y.k = x.k := by simpa using h
  simp only [decide_eq_true_eq] at h2
  simp [this, h2]
theorem hitE_o {sess : Bool} {x y : En} (h : (y.k == x.k) = true) (h2 : (decide (y.s = x.s ∧ y.e = x.e)) = false) : hitE sess x y = (sess && ovl (y.s, y.e) (x.s, x.e)) := by
  unfold hitE ovl
  have : y.k = x.k := by simpa using h
  rw [h2, this]
  simp
theorem hit_false {x y z : En} (h : hitE false x y = true) : hitE false (enJ x y) z = hitE false x z := by
  have h1 := hit_one_iff.1 h
  rw [hitE_congr (x := enJ x y) (x' := x) rfl (show min x.s y.s = x.s by omega) (show max x.e y.e = x.e by omega)]
set_option maxHeartbeats 16000000 in
set_option maxRecDepth 100000 in
theorem withR_any (A : Option Addr) (c n : Nat) (l : List En) (x : En) (sess : Bool) (w : World) (hln : l.length = n) (hz : A = none → c = 0) (hn : n ≤ 1099511627776) (hr : Rd enenc 11 w w.heap.size A l)
    (hx : enw x) (hl : ∀ y ∈ l, enw y) (hfx : fitE x = true) (hbig : ∀ l1 x1, Meets (hitE sess) l x l1 x1 → x1.c1 ≤ 2305843009213693952 ∧ x1.c2 ≤ 2305843009213693952) (hbl : ∀ y ∈ l, y.c1 ≤ 2305843009213693952 ∧ y.c2 ≤ 2305843009213693952) :
    Calls Try.prog 96 #[.slice A n c, .agg #[.int .i64 x.k, .int .i64 x.s, .int .i64 x.e, .int .i64 x.c1, .int .i64 x.s1, .int .i64 x.m1, .int .i64 x.x1, .int .i64 x.c2, .int .i64 x.s2, .int .i64 x.m2, .int .i64 x.x2], .bool sess] w (WithP sess l x w) := by
  obtain ⟨i0, hi0, hz0, hz1, hz2⟩ := info_parts en_info
  have HLN := Lib.hid hln; have HZ := Lib.hid hz; have HX := Lib.hid hx; have HL := Lib.hid hl; have HBIG := Lib.hid hbig; have HBL := Lib.hid hbl; have HFX := Lib.hid hfx
  clear hln hz hx hl hbig hbl hfx
  go_enter Try.func96, Try.ntmps96
  go_wp2_with (at_builtin; refine wpList_append_copy rfl (.tmp 16) (.tmp 17) 27 rfl (w.heap.size + 1) 43 i0 (.agg #[.int .i64 0, .int .i64 0, .int .i64 0, .int .i64 0, .int .i64 0, .int .i64 0, .int .i64 0, .int .i64 0, .int .i64 0, .int .i64 0, .int .i64 0]) 11 88 Try.underlying27 hi0 hz0 hz1 hz2 rfl (by decide) enenc enenc_len (w.heap.size + 1) 0 l rfl (own_empty (by have h := heap_alloc_new (w.alloc (.cells (enenc x).toArray 43)) (.cells #[] 43); rw [World.size_alloc] at h; exact h) (Nat.le_refl _)) A n c rfl HLN.out HZ.out (rd_grown hr (by repeat (first | with_reducible exact Below.refl _ _ | with_reducible assumption | (with_reducible exact Env.below (by assumption)) | (with_reducible refine below_new ?_ _) | (with_reducible refine below_drew ?_) | (with_reducible refine below_drewN ?_ _) | (with_reducible refine below_put ?_ ?_ _; rotate_left 1; (dsimp only; omega)) | (with_reducible refine below_then ?_ (by assumption))))) (enenc_one l) (by unfold maxLen; omega) (by omega) (by simp) ?_; intro g3 cap3 w3 own3 hcap3 hg3 hb3)
  have hl3 : Loc w3 [(w.heap.size, [.int .i64 x.k, .int .i64 x.s, .int .i64 x.e, .int .i64 x.c1, .int .i64 x.s1, .int .i64 x.m1, .int .i64 x.x1, .int .i64 x.c2, .int .i64 x.s2, .int .i64 x.m2, .int .i64 x.x2])] := by
    have h := ((Loc.nil w).new [.int .i64 x.k, .int .i64 x.s, .int .i64 x.e, .int .i64 x.c1, .int .i64 x.s1, .int .i64 x.m1, .int .i64 x.x1, .int .i64 x.c2, .int .i64 x.s2, .int .i64 x.m2, .int .i64 x.x2] 43).old (.cells #[] 43)
    exact h.belowB hb3 (by simp)
  have hb3' : Below w.heap.size w w3 := (below_new (below_new (Below.refl w.heap.size w) (.cells (enenc x).toArray 43)) (.cells #[] 43)).trans (hb3.mono (Nat.le_succ _))
  clear hb3
  go_wp2_with fail
  go_loopw [8, 9, 10] (fun u f mo wr => ∃ (m : Nat) (R : List En) (x' : En) (b : Bool), R.length = m ∧ m ≤ n ∧ f = .bool (fitE x') ∧ mo = .bool b ∧ Own enenc 11 wr (w.heap.size + 1) 43 u R ∧ Meets (hitE sess) l x R x' ∧ (b = false → ∀ y ∈ R, hitE sess x' y = false) ∧ Loc wr [(w.heap.size, [.int .i64 x'.k, .int .i64 x'.s, .int .i64 x'.e, .int .i64 x'.c1, .int .i64 x'.s1, .int .i64 x'.m1, .int .i64 x'.x1, .int .i64 x'.c2, .int .i64 x'.s2, .int .i64 x'.m2, .int .i64 x'.x2])] ∧ Below w.heap.size w wr) (fun u _ mo _ => 2 * lenV u + mB mo)
  case atStart => exact ⟨n, l, x, true, HLN.out, Nat.le_refl _, by rw [HFX.out], rfl, own3, .done _ _, (fun h => by cases h), hl3, hb3'⟩
  case round =>
    obtain ⟨m, R, x', b, hRm, hmn, rfl, rfl, ho, hme, hend, hloc, hb⟩ := hrel
    have hF := hloc
    (repeat unfold Loc at hF)
    have HRM := Lib.hid hRm; have HME := Lib.hid hme; have HEND := Lib.hid hend
    obtain ⟨F, hF0⟩ : ∃ F, F = fitE x' := ⟨_, rfl⟩
    rw [← hF0]
    have HF := Lib.hid hF0
    clear hRm hme hend hF0 own3 hl3 hb3'
    obtain ⟨Ar, cr, rfl, -⟩ := own_shape_n ho HRM.out
    cases b with
    | false =>
      have hab := absorb_eq HX.out HL.out HME.out (HEND.out rfl)
      have hw1 : (withE sess l x).1 = R ++ [x'] := by unfold withE; rw [hab]
      have hw2 : (withE sess l x).2 = F := by unfold withE; rw [hab, HF.out]
      have HW1 := Lib.hid hw1; have HW2 := Lib.hid hw2
      clear hab hw1 hw2
      go_wp2_with (at_builtin; refine wpList_append_fs rfl _ _ 27 rfl (w.heap.size + 1) 43 i0 (.agg #[.int .i64 0, .int .i64 0, .int .i64 0, .int .i64 0, .int .i64 0, .int .i64 0, .int .i64 0, .int .i64 0, .int .i64 0, .int .i64 0, .int .i64 0]) 11 88 Try.underlying27 hi0 hz0 hz1 hz2 rfl (by decide) enenc enenc_len _ _ x' rfl (ho.alloc (.cells (enenc x').toArray 43)) ⟨wr.heap.size, 0, none⟩ 1 rfl (en_new wr x' 43 wr.heap.size rfl) (enenc_one [x']) (by rw [HRM.out]; unfold maxLen; omega) (by rw [HRM.out]; omega) (by have := hloc.1; rw [World.size_alloc]; omega) ?_; intro v' w7 own7 hgr7 hsf)
      have hb7 : Below w.heap.size w w7 := (below_new hb (.cells (enenc x').toArray 43)).grown hgr7 (by rw [World.size_alloc]; have := hb.size; omega) (fun j hj => by have := (World.ownsRow.lt ho j hj).1; omega)
      clear hgr7 hsf hF
      go_ret2
      exact ⟨v', by rw [HW2.out]; rfl, by rw [HW1.out]; exact own7.mono (Nat.le_succ _), hb7⟩
    | true =>
      have hwsz := hloc.1
      obtain ⟨Bp, hBp⟩ : ∃ Bp, Bp = wr.heap.size := ⟨_, rfl⟩
      have hBpw : w.heap.size + 1 ≤ Bp := by rw [hBp]; omega
      have hBpr : ∀ j, (Value.slice Ar m cr).ownBlock = some j → j < Bp := fun j hj => by rw [hBp]; exact (World.ownsRow.lt ho j hj).2
      have HBPR := Lib.hid hBpr
      have hBle : Bp ≤ wr.heap.size := by rw [hBp]; exact Nat.le_refl _
      clear hBp hBpr
      go_wp2_with fail
      go_loopw [9, 10, 11, 12] (fun f mo u s wq => ∃ (k : Nat) (x2 : En) (oth : List En) (b2 : Bool), s = .int .i64 k ∧ k ≤ m ∧ f = .bool (fitE x2) ∧ mo = .bool b2 ∧ Own enenc 11 wq Bp 43 u oth ∧ Own enenc 11 wq (w.heap.size + 1) 43 (.slice Ar m cr) R ∧ Meets (hitE sess) l x (oth ++ R.drop k) x2 ∧ (b2 = false → ∀ y ∈ oth, hitE sess x2 y = false) ∧ oth.length ≤ k ∧ (b2 = true → oth.length < k) ∧ Loc wq [(w.heap.size, [.int .i64 x2.k, .int .i64 x2.s, .int .i64 x2.e, .int .i64 x2.c1, .int .i64 x2.s1, .int .i64 x2.m1, .int .i64 x2.x1, .int .i64 x2.c2, .int .i64 x2.s2, .int .i64 x2.m2, .int .i64 x2.x2])] ∧ Below w.heap.size w wq ∧ Bp ≤ wq.heap.size ∧ (sess = false → b2 = false)) (fun _ _ _ s _ => m - (intOf s).toNat)
      case atStart => exact ⟨0, x', [], false, rfl, Nat.zero_le _, by rw [HF.out], rfl, Own.nil _ _ _, ho, by simpa using HME.out, (fun _ y hy => by cases hy), Nat.le_refl _, (fun h => by cases h), hloc, hb, hBle, fun _ => rfl⟩
      case round =>
        clear hBle hwsz hb hloc ho
        obtain ⟨k, x2, oth, b2, rfl, hk, rfl, rfl, hou, hor, hme2, hno, hlo, hlt2, hloc2, hb2, hsz2, hsb⟩ := hrel
        have HSB := Lib.hid hsb
        have hF2 := hloc2
        (repeat unfold Loc at hF2)
        have HME2 := Lib.hid hme2; have HNO := Lib.hid hno; have HLT2 := Lib.hid hlt2
        obtain ⟨F2, hF20⟩ : ∃ F2, F2 = fitE x2 := ⟨_, rfl⟩
        rw [← hF20]
        have HF2 := Lib.hid hF20
        clear hme2 hno hlt2 hF20 hF hsb
        by_cases hlt : k < m
        · obtain ⟨y, hy⟩ : ∃ y, R[k]? = some y := ⟨_, List.getElem?_eq_getElem (by rw [HRM.out]; exact hlt)⟩
          have hdrop : R.drop k = y :: R.drop (k + 1) := by
            obtain ⟨h1, h2⟩ := List.getElem?_eq_some_iff.1 hy
            rw [← h2, List.getElem_cons_drop]
          have HD := Lib.hid hdrop
          obtain ⟨b, off, rfl, hbb, f0, f1, f2, f3, f4, f5, f6, f7, f8, f9, f10⟩ := en_cells (Own.rd enenc_len hor) hy
          have d1 : decide ((k : Int) < (m : Int)) = true := by simp; omega
          have d1' : decide (k < m) = true := by simp [hlt]
          have k1 : (0 : Int) ≤ (k : Int) := by omega
          have k2 : (k : Int) < (m : Int) := by omega
          have e1 : IntKind.i64.wrap ((k : Int) + 1) = (k : Int) + 1 := IntWalk.i64_in _ (by omega)
          have hyR : y ∈ R := List.mem_of_getElem? hy
          have hRl : ∀ z ∈ R, z ∈ l := fun z hz => by obtain ⟨ys, h1, _⟩ := HME.out.facts; exact h1.mem_iff.2 (List.mem_append_right _ hz)
          have hyw := HL.out y (hRl y hyR)
          have hx2w : enw x2 := by obtain ⟨ys, h1, _, h3, _⟩ := HME2.out.facts; rw [h3]; exact foldJ_w HX.out (fun z hz => HL.out z (h1.mem_iff.2 (List.mem_append_left _ hz)))
          have HYW := Lib.hid hyw; have HX2W := Lib.hid hx2w; have HYL := Lib.hid (hRl y hyR)
          have hmiss : hitE sess x2 y = false → True := fun _ => trivial
          obtain ⟨O, hO⟩ : ∃ O, ovl (y.s, y.e) (x2.s, x2.e) = O := ⟨_, rfl⟩
          clear hmiss hy hdrop hlt hyR hRl hyw hx2w
          rcases hK : (y.k == x2.k) with _ | _
          · have HH := Lib.hid (hitE_k (sess := sess) hK)
            clear hO
            have hL := hloc2
            have hne : b ≠ wr.heap.size := by omega
            have hbW : Below wr.heap.size wr (wr.alloc (.cells (enenc y).toArray 43)) := below_new (Below.refl _ _) _
            go_wp2_with (at_builtin; refine wpList_append_fs rfl _ _ 27 rfl Bp 43 i0 (.agg #[.int .i64 0, .int .i64 0, .int .i64 0, .int .i64 0, .int .i64 0, .int .i64 0, .int .i64 0, .int .i64 0, .int .i64 0, .int .i64 0, .int .i64 0]) 11 88 Try.underlying27 hi0 hz0 hz1 hz2 rfl (by decide) enenc enenc_len _ _ y rfl ((hou.below hbW).alloc (.cells (enenc y).toArray 43)) ⟨(wr.heap.size + 1), 0, none⟩ 1 rfl (en_new _ y 43 (wr.heap.size + 1) (by simp)) (enenc_one [y]) (by unfold maxLen; omega) (by omega) (by rw [World.size_alloc]; exact Nat.le_succ_of_le (Nat.le_trans hsz2 hbW.size)) ?_; intro v' w7 own7 hgr7 hsf)
            have hbW2 : Below wr.heap.size wr ((wr.alloc (.cells (enenc y).toArray 43)).alloc (.cells (enenc y).toArray 43)) := below_new hbW _
            have hlu := fun j hj => (World.ownsRow.lt hou j hj).1
            have hx7 : Loc w7 [(w.heap.size, [.int .i64 x2.k, .int .i64 x2.s, .int .i64 x2.e, .int .i64 x2.c1, .int .i64 x2.s1, .int .i64 x2.m1, .int .i64 x2.x1, .int .i64 x2.c2, .int .i64 x2.s2, .int .i64 x2.m2, .int .i64 x2.x2])] := Loc.grown hgr7 (fun q hq => by simp at hq; subst hq; intro e; have := hlu _ e.symm; simp at this; omega) (hloc2.below hbW2)
            have hr7 := (hor.below hbW2).grown hgr7 (by
              rcases hq : (Value.slice (some ⟨b, off, none⟩) m cr).ownBlock with _ | j
              · exact .inl rfl
              · refine .inr (fun e => ?_)
                have h1 := HBPR.out j hq
                have h2 := hlu j e.symm
                omega)
            have hb7 : Below w.heap.size w w7 := (hb2.trans (hbW2.mono hb2.size)).grown hgr7 (Nat.le_trans hb2.size hbW2.size) (fun j hj => by have := hlu j hj; omega)
            have hs7 := Nat.le_trans hsz2 (Nat.le_trans hbW2.size hgr7.size)
            have hm7 : Meets (hitE sess) l x ((oth ++ [y]) ++ R.drop (k + 1)) x2 := by have h := HME2.out; rw [HD.out] at h; simpa using h
            have hn7 : b2 = false → ∀ z ∈ oth ++ [y], hitE sess x2 z = false := fun h z hz => by
              rcases List.mem_append.1 hz with h' | h'
              · exact HNO.out h z h'
              · rw [List.mem_singleton.1 h']; exact HH.out
            have HM7 := Lib.hid hm7; have HN7 := Lib.hid hn7
            have hl7 : (oth ++ [y]).length ≤ k + 1 := by simp; omega
            have hl8 : b2 = true → (oth ++ [y]).length < k + 1 := fun h => by have := HLT2.out h; simp; omega
            have HL8 := Lib.hid hl8
            clear hgr7 hsf hlu hm7 hn7 hl8 hou hor hloc2 hb2 hF2
            (try clear hF hL)
            go_wp2
            go_roundw
            case rel => exact ⟨k + 1, x2, oth ++ [y], b2, by go_num, by omega, by rw [HF2.out], rfl, own7, hr7, HM7.out, HN7.out, hl7, HL8.out, hx7, hb7, hs7, (fun h => HSB.out (by first | exact h | rfl | trivial))⟩
            case measure => simp [intOf]; omega
          · rcases hS1 : (y.s == x2.s) with _ | _
            · have hS : decide (y.s = x2.s ∧ y.e = x2.e) = false := by simp at hS1; simp [hS1]
              have hho := hitE_o (sess := sess) hK hS
              rw [hO] at hho
              clear hS
              cases sess with
              | false =>
                have HH := Lib.hid (hho.trans rfl)
                clear hO hho
                have hL := hloc2
                have hne : b ≠ wr.heap.size := by omega
                have hbW : Below wr.heap.size wr (wr.alloc (.cells (enenc y).toArray 43)) := below_new (Below.refl _ _) _
                go_wp2_with (at_builtin; refine wpList_append_fs rfl _ _ 27 rfl Bp 43 i0 (.agg #[.int .i64 0, .int .i64 0, .int .i64 0, .int .i64 0, .int .i64 0, .int .i64 0, .int .i64 0, .int .i64 0, .int .i64 0, .int .i64 0, .int .i64 0]) 11 88 Try.underlying27 hi0 hz0 hz1 hz2 rfl (by decide) enenc enenc_len _ _ y rfl ((hou.below hbW).alloc (.cells (enenc y).toArray 43)) ⟨(wr.heap.size + 1), 0, none⟩ 1 rfl (en_new _ y 43 (wr.heap.size + 1) (by simp)) (enenc_one [y]) (by unfold maxLen; omega) (by omega) (by rw [World.size_alloc]; exact Nat.le_succ_of_le (Nat.le_trans hsz2 hbW.size)) ?_; intro v' w7 own7 hgr7 hsf)
                have hbW2 : Below wr.heap.size wr ((wr.alloc (.cells (enenc y).toArray 43)).alloc (.cells (enenc y).toArray 43)) := below_new hbW _
                have hlu := fun j hj => (World.ownsRow.lt hou j hj).1
                have hx7 : Loc w7 [(w.heap.size, [.int .i64 x2.k, .int .i64 x2.s, .int .i64 x2.e, .int .i64 x2.c1, .int .i64 x2.s1, .int .i64 x2.m1, .int .i64 x2.x1, .int .i64 x2.c2, .int .i64 x2.s2, .int .i64 x2.m2, .int .i64 x2.x2])] := Loc.grown hgr7 (fun q hq => by simp at hq; subst hq; intro e; have := hlu _ e.symm; simp at this; omega) (hloc2.below hbW2)
                have hr7 := (hor.below hbW2).grown hgr7 (by
                  rcases hq : (Value.slice (some ⟨b, off, none⟩) m cr).ownBlock with _ | j
                  · exact .inl rfl
                  · refine .inr (fun e => ?_)
                    have h1 := HBPR.out j hq
                    have h2 := hlu j e.symm
                    omega)
                have hb7 : Below w.heap.size w w7 := (hb2.trans (hbW2.mono hb2.size)).grown hgr7 (Nat.le_trans hb2.size hbW2.size) (fun j hj => by have := hlu j hj; omega)
                have hs7 := Nat.le_trans hsz2 (Nat.le_trans hbW2.size hgr7.size)
                have hm7 : Meets (hitE false) l x ((oth ++ [y]) ++ R.drop (k + 1)) x2 := by have h := HME2.out; rw [HD.out] at h; simpa using h
                have hn7 : b2 = false → ∀ z ∈ oth ++ [y], hitE false x2 z = false := fun h z hz => by
                  rcases List.mem_append.1 hz with h' | h'
                  · exact HNO.out h z h'
                  · rw [List.mem_singleton.1 h']; exact HH.out
                have HM7 := Lib.hid hm7; have HN7 := Lib.hid hn7
                have hl7 : (oth ++ [y]).length ≤ k + 1 := by simp; omega
                have hl8 : b2 = true → (oth ++ [y]).length < k + 1 := fun h => by have := HLT2.out h; simp; omega
                have HL8 := Lib.hid hl8
                clear hgr7 hsf hlu hm7 hn7 hl8 hou hor hloc2 hb2 hF2
                (try clear hF hL)
                go_wp2
                go_roundw
                case rel => exact ⟨k + 1, x2, oth ++ [y], b2, by go_num, by omega, by rw [HF2.out], rfl, own7, hr7, HM7.out, HN7.out, hl7, HL8.out, hx7, hb7, hs7, (fun h => HSB.out (by first | exact h | rfl | trivial))⟩
                case measure => simp [intOf]; omega
              | true =>
                cases O with
                | false =>
                  have HH := Lib.hid (hho.trans rfl)
                  clear hho
                  have hL := hloc2
                  have hne : b ≠ wr.heap.size := by omega
                  go_wp2_with fail
                  go_at_call 39
                  refine (rovl_any _ _ _ _ _).mono ?_
                  rw [hO]
                  rintro r w4 ⟨rfl, hb4⟩
                  replace hL := (by with_reducible first | exact hL.below hb4 | exact (hL.new _ _).below hb4 | exact ((hL.new _ _).new _ _).below hb4 | exact (((hL.new _ _).new _ _).new _ _).below hb4 | exact ((((hL.new _ _).new _ _).new _ _).new _ _).below hb4); (repeat rw [World.size_alloc] at hL); have hF := hL; (repeat unfold Loc at hF)
                  have hbW : Below wr.heap.size wr w4 := (by repeat (first | with_reducible exact Below.refl _ _ | with_reducible assumption | (with_reducible exact Env.below (by assumption)) | (with_reducible refine below_new ?_ _) | (with_reducible refine below_drew ?_) | (with_reducible refine below_drewN ?_ _) | (with_reducible refine below_put ?_ ?_ _; rotate_left 1; (dsimp only; omega)) | (with_reducible refine below_then ?_ (by assumption))))
                  go_wp2_with (at_builtin; refine wpList_append_fs rfl _ _ 27 rfl Bp 43 i0 (.agg #[.int .i64 0, .int .i64 0, .int .i64 0, .int .i64 0, .int .i64 0, .int .i64 0, .int .i64 0, .int .i64 0, .int .i64 0, .int .i64 0, .int .i64 0]) 11 88 Try.underlying27 hi0 hz0 hz1 hz2 rfl (by decide) enenc enenc_len _ _ y rfl ((hou.below hbW).alloc (.cells (enenc y).toArray 43)) ⟨w4.heap.size, 0, none⟩ 1 rfl (en_new _ y 43 w4.heap.size rfl) (enenc_one [y]) (by unfold maxLen; omega) (by omega) (by rw [World.size_alloc]; exact Nat.le_succ_of_le (Nat.le_trans hsz2 hbW.size)) ?_; intro v' w7 own7 hgr7 hsf)
                  have hbW2 : Below wr.heap.size wr (w4.alloc (.cells (enenc y).toArray 43)) := below_new hbW _
                  have hlu := fun j hj => (World.ownsRow.lt hou j hj).1
                  have hx7 : Loc w7 [(w.heap.size, [.int .i64 x2.k, .int .i64 x2.s, .int .i64 x2.e, .int .i64 x2.c1, .int .i64 x2.s1, .int .i64 x2.m1, .int .i64 x2.x1, .int .i64 x2.c2, .int .i64 x2.s2, .int .i64 x2.m2, .int .i64 x2.x2])] := Loc.grown hgr7 (fun q hq => by simp at hq; subst hq; intro e; have := hlu _ e.symm; simp at this; omega) (hloc2.below hbW2)
                  have hr7 := (hor.below hbW2).grown hgr7 (by
                    rcases hq : (Value.slice (some ⟨b, off, none⟩) m cr).ownBlock with _ | j
                    · exact .inl rfl
                    · refine .inr (fun e => ?_)
                      have h1 := HBPR.out j hq
                      have h2 := hlu j e.symm
                      omega)
                  have hb7 : Below w.heap.size w w7 := (hb2.trans (hbW2.mono hb2.size)).grown hgr7 (Nat.le_trans hb2.size hbW2.size) (fun j hj => by have := hlu j hj; omega)
                  have hs7 := Nat.le_trans hsz2 (Nat.le_trans hbW2.size hgr7.size)
                  have hm7 : Meets (hitE true) l x ((oth ++ [y]) ++ R.drop (k + 1)) x2 := by have h := HME2.out; rw [HD.out] at h; simpa using h
                  have hn7 : b2 = false → ∀ z ∈ oth ++ [y], hitE true x2 z = false := fun h z hz => by
                    rcases List.mem_append.1 hz with h' | h'
                    · exact HNO.out h z h'
                    · rw [List.mem_singleton.1 h']; exact HH.out
                  have HM7 := Lib.hid hm7; have HN7 := Lib.hid hn7
                  have hl7 : (oth ++ [y]).length ≤ k + 1 := by simp; omega
                  have hl8 : b2 = true → (oth ++ [y]).length < k + 1 := fun h => by have := HLT2.out h; simp; omega
                  have HL8 := Lib.hid hl8
                  clear hgr7 hsf hlu hm7 hn7 hl8 hou hor hloc2 hb2 hF2
                  (try clear hF hL)
                  go_wp2
                  go_roundw
                  case rel => exact ⟨k + 1, x2, oth ++ [y], b2, by go_num, by omega, by rw [HF2.out], rfl, own7, hr7, HM7.out, HN7.out, hl7, HL8.out, hx7, hb7, hs7, (fun h => HSB.out (by first | exact h | rfl | trivial))⟩
                  case measure => simp [intOf]; omega
                | true =>
                  have HH := Lib.hid (hho.trans rfl)
                  clear hho
                  have hL := hloc2
                  have hne : b ≠ wr.heap.size := by omega
                  go_wp2_with fail
                  go_at_call 39
                  refine (rovl_any _ _ _ _ _).mono ?_
                  rw [hO]
                  rintro r w4 ⟨rfl, hb4⟩
                  replace hL := (by with_reducible first | exact hL.below hb4 | exact (hL.new _ _).below hb4 | exact ((hL.new _ _).new _ _).below hb4 | exact (((hL.new _ _).new _ _).new _ _).below hb4 | exact ((((hL.new _ _).new _ _).new _ _).new _ _).below hb4); (repeat rw [World.size_alloc] at hL); have hF := hL; (repeat unfold Loc at hF)
                  go_wp2_with fail
                  go_at_call 121
                  refine (bothE_any x2 y _ HX2W.out HYW.out (by have h1 := HBIG.out _ _ HME2.out; have h2 := HBL.out y HYL.out; omega) (by have h1 := HBIG.out _ _ HME2.out; have h2 := HBL.out y HYL.out; omega)).mono ?_
                  rintro r w5 ⟨z, hz, rfl, hb5⟩
                  have hbW : Below wr.heap.size wr w5 := (by repeat (first | with_reducible exact Below.refl _ _ | with_reducible assumption | (with_reducible exact Env.below (by assumption)) | (with_reducible refine below_new ?_ _) | (with_reducible refine below_drew ?_) | (with_reducible refine below_drewN ?_ _) | (with_reducible refine below_put ?_ ?_ _; rotate_left 1; (dsimp only; omega)) | (with_reducible refine below_then ?_ (by assumption))))
                  have HZ := Lib.hid hz
                  have hx5 := hloc2.below hbW
                  clear hz
                  (try clear hF)
                  (try clear hL)
                  have hF := hx5
                  (repeat unfold Loc at hF)
                  have hfz : (F2 && fitE z) = fitE z := by rw [HF2.out, HZ.out]; exact fit_step HX2W.out HYW.out
                  have HFZ := Lib.hid hfz
                  obtain ⟨Fz, hFz⟩ : ∃ Fz, Fz = fitE z := ⟨_, rfl⟩
                  rw [← hFz]
                  have HFZ2 := Lib.hid hFz
                  clear hfz hFz
                  cases F2 with
                  | false =>
                    go_wp2_with fail
                    have hpg := putW_grown w.heap.size 0 [.int .i64 z.k, .int .i64 z.s, .int .i64 z.e, .int .i64 z.c1, .int .i64 z.s1, .int .i64 z.m1, .int .i64 z.x1, .int .i64 z.c2, .int .i64 z.s2, .int .i64 z.m2, .int .i64 z.x2] 0 w5
                    have hbx : Below w.heap.size w w5 := hb2.trans (hbW.mono hb2.size)
                    have hx8 := ((((((((((hx5.put (by simp) 0 (.int .i64 z.k) (by simp)).put (by simp) 1 (.int .i64 z.s) (by simp)).put (by simp) 2 (.int .i64 z.e) (by simp)).put (by simp) 3 (.int .i64 z.c1) (by simp)).put (by simp) 4 (.int .i64 z.s1) (by simp)).put (by simp) 5 (.int .i64 z.m1) (by simp)).put (by simp) 6 (.int .i64 z.x1) (by simp)).put (by simp) 7 (.int .i64 z.c2) (by simp)).put (by simp) 8 (.int .i64 z.s2) (by simp)).put (by simp) 9 (.int .i64 z.m2) (by simp)).put (by simp) 10 (.int .i64 z.x2) (by simp)
                    have ho8 := ((hou.below hbW).grown hpg (own_apart (hou.below hbW) (by omega)))
                    have hr8 := ((hor.below hbW).grown hpg (own_apart (hor.below hbW) (by omega)))
                    have hb8 := hbx.grown hpg hbx.size (fun j hj => by cases hj; exact Nat.le_refl _)
                    have hs8 := Nat.le_trans hsz2 (Nat.le_trans hbW.size hpg.size)
                    have hm8 : Meets (hitE true) l x (oth ++ R.drop (k + 1)) z := by rw [HZ.out]; exact HME2.out.snoc (by rw [HD.out]) HH.out
                    go_roundw
                    case rel => exact ⟨k + 1, z, oth, true, by go_num, by omega, (by have h := HFZ.out; simp only [Bool.false_and] at h; rw [← h]), rfl, ho8.alloc _, hr8.alloc _, hm8, (fun h => by cases h), by omega, (fun _ => by omega), hx8.old _, below_new hb8 _, (by rw [World.size_alloc]; exact Nat.le_succ_of_le hs8), (fun h => by first | rfl | cases h | exact absurd h (by simp))⟩
                    case measure => simp [intOf]; omega
                  | true =>
                    go_wp2_with fail
                    have hpg := putW_grown w.heap.size 0 [.int .i64 z.k, .int .i64 z.s, .int .i64 z.e, .int .i64 z.c1, .int .i64 z.s1, .int .i64 z.m1, .int .i64 z.x1, .int .i64 z.c2, .int .i64 z.s2, .int .i64 z.m2, .int .i64 z.x2] 0 w5
                    have hbx : Below w.heap.size w w5 := hb2.trans (hbW.mono hb2.size)
                    have hx8 := ((((((((((hx5.put (by simp) 0 (.int .i64 z.k) (by simp)).put (by simp) 1 (.int .i64 z.s) (by simp)).put (by simp) 2 (.int .i64 z.e) (by simp)).put (by simp) 3 (.int .i64 z.c1) (by simp)).put (by simp) 4 (.int .i64 z.s1) (by simp)).put (by simp) 5 (.int .i64 z.m1) (by simp)).put (by simp) 6 (.int .i64 z.x1) (by simp)).put (by simp) 7 (.int .i64 z.c2) (by simp)).put (by simp) 8 (.int .i64 z.s2) (by simp)).put (by simp) 9 (.int .i64 z.m2) (by simp)).put (by simp) 10 (.int .i64 z.x2) (by simp)
                    have ho8 := ((hou.below hbW).grown hpg (own_apart (hou.below hbW) (by omega)))
                    have hr8 := ((hor.below hbW).grown hpg (own_apart (hor.below hbW) (by omega)))
                    have hb8 := hbx.grown hpg hbx.size (fun j hj => by cases hj; exact Nat.le_refl _)
                    have hs8 := Nat.le_trans hsz2 (Nat.le_trans hbW.size hpg.size)
                    have hm8 : Meets (hitE true) l x (oth ++ R.drop (k + 1)) z := by rw [HZ.out]; exact HME2.out.snoc (by rw [HD.out]) HH.out
                    go_roundw
                    case rel => exact ⟨k + 1, z, oth, true, by go_num, by omega, (by rw [HFZ2.out]), rfl, ho8.alloc _, hr8.alloc _, hm8, (fun h => by cases h), by omega, (fun _ => by omega), hx8.old _, below_new hb8 _, (by rw [World.size_alloc]; exact Nat.le_succ_of_le hs8), (fun h => by first | rfl | cases h | exact absurd h (by simp))⟩
                    case measure => simp [intOf]; omega
            · rcases hS2 : (y.e == x2.e) with _ | _
              · have hS : decide (y.s = x2.s ∧ y.e = x2.e) = false := by simp at hS2; simp [hS2]
                have hho := hitE_o (sess := sess) hK hS
                rw [hO] at hho
                clear hS
                have hS1' : decide (y.s = x2.s) = true := by simpa using hS1
                cases sess with
                | false =>
                  have HH := Lib.hid (hho.trans rfl)
                  clear hO hho
                  have hL := hloc2
                  have hne : b ≠ wr.heap.size := by omega
                  have hbW : Below wr.heap.size wr (wr.alloc (.cells (enenc y).toArray 43)) := below_new (Below.refl _ _) _
                  go_wp2_with (at_builtin; refine wpList_append_fs rfl _ _ 27 rfl Bp 43 i0 (.agg #[.int .i64 0, .int .i64 0, .int .i64 0, .int .i64 0, .int .i64 0, .int .i64 0, .int .i64 0, .int .i64 0, .int .i64 0, .int .i64 0, .int .i64 0]) 11 88 Try.underlying27 hi0 hz0 hz1 hz2 rfl (by decide) enenc enenc_len _ _ y rfl ((hou.below hbW).alloc (.cells (enenc y).toArray 43)) ⟨(wr.heap.size + 1), 0, none⟩ 1 rfl (en_new _ y 43 (wr.heap.size + 1) (by simp)) (enenc_one [y]) (by unfold maxLen; omega) (by omega) (by rw [World.size_alloc]; exact Nat.le_succ_of_le (Nat.le_trans hsz2 hbW.size)) ?_; intro v' w7 own7 hgr7 hsf)
                  have hbW2 : Below wr.heap.size wr ((wr.alloc (.cells (enenc y).toArray 43)).alloc (.cells (enenc y).toArray 43)) := below_new hbW _
                  have hlu := fun j hj => (World.ownsRow.lt hou j hj).1
                  have hx7 : Loc w7 [(w.heap.size, [.int .i64 x2.k, .int .i64 x2.s, .int .i64 x2.e, .int .i64 x2.c1, .int .i64 x2.s1, .int .i64 x2.m1, .int .i64 x2.x1, .int .i64 x2.c2, .int .i64 x2.s2, .int .i64 x2.m2, .int .i64 x2.x2])] := Loc.grown hgr7 (fun q hq => by simp at hq; subst hq; intro e; have := hlu _ e.symm; simp at this; omega) (hloc2.below hbW2)
                  have hr7 := (hor.below hbW2).grown hgr7 (by
                    rcases hq : (Value.slice (some ⟨b, off, none⟩) m cr).ownBlock with _ | j
                    · exact .inl rfl
                    · refine .inr (fun e => ?_)
                      have h1 := HBPR.out j hq
                      have h2 := hlu j e.symm
                      omega)
                  have hb7 : Below w.heap.size w w7 := (hb2.trans (hbW2.mono hb2.size)).grown hgr7 (Nat.le_trans hb2.size hbW2.size) (fun j hj => by have := hlu j hj; omega)
                  have hs7 := Nat.le_trans hsz2 (Nat.le_trans hbW2.size hgr7.size)
                  have hm7 : Meets (hitE false) l x ((oth ++ [y]) ++ R.drop (k + 1)) x2 := by have h := HME2.out; rw [HD.out] at h; simpa using h
                  have hn7 : b2 = false → ∀ z ∈ oth ++ [y], hitE false x2 z = false := fun h z hz => by
                    rcases List.mem_append.1 hz with h' | h'
                    · exact HNO.out h z h'
                    · rw [List.mem_singleton.1 h']; exact HH.out
                  have HM7 := Lib.hid hm7; have HN7 := Lib.hid hn7
                  have hl7 : (oth ++ [y]).length ≤ k + 1 := by simp; omega
                  have hl8 : b2 = true → (oth ++ [y]).length < k + 1 := fun h => by have := HLT2.out h; simp; omega
                  have HL8 := Lib.hid hl8
                  clear hgr7 hsf hlu hm7 hn7 hl8 hou hor hloc2 hb2 hF2
                  (try clear hF hL)
                  go_wp2
                  go_roundw
                  case rel => exact ⟨k + 1, x2, oth ++ [y], b2, by go_num, by omega, by rw [HF2.out], rfl, own7, hr7, HM7.out, HN7.out, hl7, HL8.out, hx7, hb7, hs7, (fun h => HSB.out (by first | exact h | rfl | trivial))⟩
                  case measure => simp [intOf]; omega
                | true =>
                  cases O with
                  | false =>
                    have HH := Lib.hid (hho.trans rfl)
                    clear hho
                    have hL := hloc2
                    have hne : b ≠ wr.heap.size := by omega
                    go_wp2_with fail
                    go_at_call 39
                    refine (rovl_any _ _ _ _ _).mono ?_
                    rw [hO]
                    rintro r w4 ⟨rfl, hb4⟩
                    replace hL := (by with_reducible first | exact hL.below hb4 | exact (hL.new _ _).below hb4 | exact ((hL.new _ _).new _ _).below hb4 | exact (((hL.new _ _).new _ _).new _ _).below hb4 | exact ((((hL.new _ _).new _ _).new _ _).new _ _).below hb4); (repeat rw [World.size_alloc] at hL); have hF := hL; (repeat unfold Loc at hF)
                    have hbW : Below wr.heap.size wr w4 := (by repeat (first | with_reducible exact Below.refl _ _ | with_reducible assumption | (with_reducible exact Env.below (by assumption)) | (with_reducible refine below_new ?_ _) | (with_reducible refine below_drew ?_) | (with_reducible refine below_drewN ?_ _) | (with_reducible refine below_put ?_ ?_ _; rotate_left 1; (dsimp only; omega)) | (with_reducible refine below_then ?_ (by assumption))))
                    go_wp2_with (at_builtin; refine wpList_append_fs rfl _ _ 27 rfl Bp 43 i0 (.agg #[.int .i64 0, .int .i64 0, .int .i64 0, .int .i64 0, .int .i64 0, .int .i64 0, .int .i64 0, .int .i64 0, .int .i64 0, .int .i64 0, .int .i64 0]) 11 88 Try.underlying27 hi0 hz0 hz1 hz2 rfl (by decide) enenc enenc_len _ _ y rfl ((hou.below hbW).alloc (.cells (enenc y).toArray 43)) ⟨w4.heap.size, 0, none⟩ 1 rfl (en_new _ y 43 w4.heap.size rfl) (enenc_one [y]) (by unfold maxLen; omega) (by omega) (by rw [World.size_alloc]; exact Nat.le_succ_of_le (Nat.le_trans hsz2 hbW.size)) ?_; intro v' w7 own7 hgr7 hsf)
                    have hbW2 : Below wr.heap.size wr (w4.alloc (.cells (enenc y).toArray 43)) := below_new hbW _
                    have hlu := fun j hj => (World.ownsRow.lt hou j hj).1
                    have hx7 : Loc w7 [(w.heap.size, [.int .i64 x2.k, .int .i64 x2.s, .int .i64 x2.e, .int .i64 x2.c1, .int .i64 x2.s1, .int .i64 x2.m1, .int .i64 x2.x1, .int .i64 x2.c2, .int .i64 x2.s2, .int .i64 x2.m2, .int .i64 x2.x2])] := Loc.grown hgr7 (fun q hq => by simp at hq; subst hq; intro e; have := hlu _ e.symm; simp at this; omega) (hloc2.below hbW2)
                    have hr7 := (hor.below hbW2).grown hgr7 (by
                      rcases hq : (Value.slice (some ⟨b, off, none⟩) m cr).ownBlock with _ | j
                      · exact .inl rfl
                      · refine .inr (fun e => ?_)
                        have h1 := HBPR.out j hq
                        have h2 := hlu j e.symm
                        omega)
                    have hb7 : Below w.heap.size w w7 := (hb2.trans (hbW2.mono hb2.size)).grown hgr7 (Nat.le_trans hb2.size hbW2.size) (fun j hj => by have := hlu j hj; omega)
                    have hs7 := Nat.le_trans hsz2 (Nat.le_trans hbW2.size hgr7.size)
                    have hm7 : Meets (hitE true) l x ((oth ++ [y]) ++ R.drop (k + 1)) x2 := by have h := HME2.out; rw [HD.out] at h; simpa using h
                    have hn7 : b2 = false → ∀ z ∈ oth ++ [y], hitE true x2 z = false := fun h z hz => by
                      rcases List.mem_append.1 hz with h' | h'
                      · exact HNO.out h z h'
                      · rw [List.mem_singleton.1 h']; exact HH.out
                    have HM7 := Lib.hid hm7; have HN7 := Lib.hid hn7
                    have hl7 : (oth ++ [y]).length ≤ k + 1 := by simp; omega
                    have hl8 : b2 = true → (oth ++ [y]).length < k + 1 := fun h => by have := HLT2.out h; simp; omega
                    have HL8 := Lib.hid hl8
                    clear hgr7 hsf hlu hm7 hn7 hl8 hou hor hloc2 hb2 hF2
                    (try clear hF hL)
                    go_wp2
                    go_roundw
                    case rel => exact ⟨k + 1, x2, oth ++ [y], b2, by go_num, by omega, by rw [HF2.out], rfl, own7, hr7, HM7.out, HN7.out, hl7, HL8.out, hx7, hb7, hs7, (fun h => HSB.out (by first | exact h | rfl | trivial))⟩
                    case measure => simp [intOf]; omega
                  | true =>
                    have HH := Lib.hid (hho.trans rfl)
                    clear hho
                    have hL := hloc2
                    have hne : b ≠ wr.heap.size := by omega
                    go_wp2_with fail
                    go_at_call 39
                    refine (rovl_any _ _ _ _ _).mono ?_
                    rw [hO]
                    rintro r w4 ⟨rfl, hb4⟩
                    replace hL := (by with_reducible first | exact hL.below hb4 | exact (hL.new _ _).below hb4 | exact ((hL.new _ _).new _ _).below hb4 | exact (((hL.new _ _).new _ _).new _ _).below hb4 | exact ((((hL.new _ _).new _ _).new _ _).new _ _).below hb4); (repeat rw [World.size_alloc] at hL); have hF := hL; (repeat unfold Loc at hF)
                    go_wp2_with fail
                    go_at_call 121
                    refine (bothE_any x2 y _ HX2W.out HYW.out (by have h1 := HBIG.out _ _ HME2.out; have h2 := HBL.out y HYL.out; omega) (by have h1 := HBIG.out _ _ HME2.out; have h2 := HBL.out y HYL.out; omega)).mono ?_
                    rintro r w5 ⟨z, hz, rfl, hb5⟩
                    have hbW : Below wr.heap.size wr w5 := (by repeat (first | with_reducible exact Below.refl _ _ | with_reducible assumption | (with_reducible exact Env.below (by assumption)) | (with_reducible refine below_new ?_ _) | (with_reducible refine below_drew ?_) | (with_reducible refine below_drewN ?_ _) | (with_reducible refine below_put ?_ ?_ _; rotate_left 1; (dsimp only; omega)) | (with_reducible refine below_then ?_ (by assumption))))
                    have HZ := Lib.hid hz
                    have hx5 := hloc2.below hbW
                    clear hz
                    (try clear hF)
                    (try clear hL)
                    have hF := hx5
                    (repeat unfold Loc at hF)
                    have hfz : (F2 && fitE z) = fitE z := by rw [HF2.out, HZ.out]; exact fit_step HX2W.out HYW.out
                    have HFZ := Lib.hid hfz
                    obtain ⟨Fz, hFz⟩ : ∃ Fz, Fz = fitE z := ⟨_, rfl⟩
                    rw [← hFz]
                    have HFZ2 := Lib.hid hFz
                    clear hfz hFz
                    cases F2 with
                    | false =>
                      go_wp2_with fail
                      have hpg := putW_grown w.heap.size 0 [.int .i64 z.k, .int .i64 z.s, .int .i64 z.e, .int .i64 z.c1, .int .i64 z.s1, .int .i64 z.m1, .int .i64 z.x1, .int .i64 z.c2, .int .i64 z.s2, .int .i64 z.m2, .int .i64 z.x2] 0 w5
                      have hbx : Below w.heap.size w w5 := hb2.trans (hbW.mono hb2.size)
                      have hx8 := ((((((((((hx5.put (by simp) 0 (.int .i64 z.k) (by simp)).put (by simp) 1 (.int .i64 z.s) (by simp)).put (by simp) 2 (.int .i64 z.e) (by simp)).put (by simp) 3 (.int .i64 z.c1) (by simp)).put (by simp) 4 (.int .i64 z.s1) (by simp)).put (by simp) 5 (.int .i64 z.m1) (by simp)).put (by simp) 6 (.int .i64 z.x1) (by simp)).put (by simp) 7 (.int .i64 z.c2) (by simp)).put (by simp) 8 (.int .i64 z.s2) (by simp)).put (by simp) 9 (.int .i64 z.m2) (by simp)).put (by simp) 10 (.int .i64 z.x2) (by simp)
                      have ho8 := ((hou.below hbW).grown hpg (own_apart (hou.below hbW) (by omega)))
                      have hr8 := ((hor.below hbW).grown hpg (own_apart (hor.below hbW) (by omega)))
                      have hb8 := hbx.grown hpg hbx.size (fun j hj => by cases hj; exact Nat.le_refl _)
                      have hs8 := Nat.le_trans hsz2 (Nat.le_trans hbW.size hpg.size)
                      have hm8 : Meets (hitE true) l x (oth ++ R.drop (k + 1)) z := by rw [HZ.out]; exact HME2.out.snoc (by rw [HD.out]) HH.out
                      go_roundw
                      case rel => exact ⟨k + 1, z, oth, true, by go_num, by omega, (by have h := HFZ.out; simp only [Bool.false_and] at h; rw [← h]), rfl, ho8.alloc _, hr8.alloc _, hm8, (fun h => by cases h), by omega, (fun _ => by omega), hx8.old _, below_new hb8 _, (by rw [World.size_alloc]; exact Nat.le_succ_of_le hs8), (fun h => by first | rfl | cases h | exact absurd h (by simp))⟩
                      case measure => simp [intOf]; omega
                    | true =>
                      go_wp2_with fail
                      have hpg := putW_grown w.heap.size 0 [.int .i64 z.k, .int .i64 z.s, .int .i64 z.e, .int .i64 z.c1, .int .i64 z.s1, .int .i64 z.m1, .int .i64 z.x1, .int .i64 z.c2, .int .i64 z.s2, .int .i64 z.m2, .int .i64 z.x2] 0 w5
                      have hbx : Below w.heap.size w w5 := hb2.trans (hbW.mono hb2.size)
                      have hx8 := ((((((((((hx5.put (by simp) 0 (.int .i64 z.k) (by simp)).put (by simp) 1 (.int .i64 z.s) (by simp)).put (by simp) 2 (.int .i64 z.e) (by simp)).put (by simp) 3 (.int .i64 z.c1) (by simp)).put (by simp) 4 (.int .i64 z.s1) (by simp)).put (by simp) 5 (.int .i64 z.m1) (by simp)).put (by simp) 6 (.int .i64 z.x1) (by simp)).put (by simp) 7 (.int .i64 z.c2) (by simp)).put (by simp) 8 (.int .i64 z.s2) (by simp)).put (by simp) 9 (.int .i64 z.m2) (by simp)).put (by simp) 10 (.int .i64 z.x2) (by simp)
                      have ho8 := ((hou.below hbW).grown hpg (own_apart (hou.below hbW) (by omega)))
                      have hr8 := ((hor.below hbW).grown hpg (own_apart (hor.below hbW) (by omega)))
                      have hb8 := hbx.grown hpg hbx.size (fun j hj => by cases hj; exact Nat.le_refl _)
                      have hs8 := Nat.le_trans hsz2 (Nat.le_trans hbW.size hpg.size)
                      have hm8 : Meets (hitE true) l x (oth ++ R.drop (k + 1)) z := by rw [HZ.out]; exact HME2.out.snoc (by rw [HD.out]) HH.out
                      go_roundw
                      case rel => exact ⟨k + 1, z, oth, true, by go_num, by omega, (by rw [HFZ2.out]), rfl, ho8.alloc _, hr8.alloc _, hm8, (fun h => by cases h), by omega, (fun _ => by omega), hx8.old _, below_new hb8 _, (by rw [World.size_alloc]; exact Nat.le_succ_of_le hs8), (fun h => by first | rfl | cases h | exact absurd h (by simp))⟩
                      case measure => simp [intOf]; omega
              · have hS : decide (y.s = x2.s ∧ y.e = x2.e) = true := by simp at hS1 hS2; simp [hS1, hS2]
                have HH := Lib.hid (hitE_s (sess := sess) hK hS)
                clear hS hO
                cases sess with
                | false =>
                  have hL := hloc2
                  have hne : b ≠ wr.heap.size := by omega
                  go_wp2_with fail
                  go_at_call 121
                  refine (bothE_any x2 y _ HX2W.out HYW.out (by have h1 := HBIG.out _ _ HME2.out; have h2 := HBL.out y HYL.out; omega) (by have h1 := HBIG.out _ _ HME2.out; have h2 := HBL.out y HYL.out; omega)).mono ?_
                  rintro r w5 ⟨z, hz, rfl, hb5⟩
                  have hbW : Below wr.heap.size wr w5 := (by repeat (first | with_reducible exact Below.refl _ _ | with_reducible assumption | (with_reducible exact Env.below (by assumption)) | (with_reducible refine below_new ?_ _) | (with_reducible refine below_drew ?_) | (with_reducible refine below_drewN ?_ _) | (with_reducible refine below_put ?_ ?_ _; rotate_left 1; (dsimp only; omega)) | (with_reducible refine below_then ?_ (by assumption))))
                  have HZ := Lib.hid hz
                  have hx5 := hloc2.below hbW
                  clear hz
                  (try clear hF)
                  (try clear hL)
                  have hF := hx5
                  (repeat unfold Loc at hF)
                  have hfz : (F2 && fitE z) = fitE z := by rw [HF2.out, HZ.out]; exact fit_step HX2W.out HYW.out
                  have HFZ := Lib.hid hfz
                  obtain ⟨Fz, hFz⟩ : ∃ Fz, Fz = fitE z := ⟨_, rfl⟩
                  rw [← hFz]
                  have HFZ2 := Lib.hid hFz
                  clear hfz hFz
                  cases F2 with
                  | false =>
                    go_wp2_with fail
                    have hpg := putW_grown w.heap.size 0 [.int .i64 z.k, .int .i64 z.s, .int .i64 z.e, .int .i64 z.c1, .int .i64 z.s1, .int .i64 z.m1, .int .i64 z.x1, .int .i64 z.c2, .int .i64 z.s2, .int .i64 z.m2, .int .i64 z.x2] 0 w5
                    have hbx : Below w.heap.size w w5 := hb2.trans (hbW.mono hb2.size)
                    have hx8 := ((((((((((hx5.put (by simp) 0 (.int .i64 z.k) (by simp)).put (by simp) 1 (.int .i64 z.s) (by simp)).put (by simp) 2 (.int .i64 z.e) (by simp)).put (by simp) 3 (.int .i64 z.c1) (by simp)).put (by simp) 4 (.int .i64 z.s1) (by simp)).put (by simp) 5 (.int .i64 z.m1) (by simp)).put (by simp) 6 (.int .i64 z.x1) (by simp)).put (by simp) 7 (.int .i64 z.c2) (by simp)).put (by simp) 8 (.int .i64 z.s2) (by simp)).put (by simp) 9 (.int .i64 z.m2) (by simp)).put (by simp) 10 (.int .i64 z.x2) (by simp)
                    have ho8 := ((hou.below hbW).grown hpg (own_apart (hou.below hbW) (by omega)))
                    have hr8 := ((hor.below hbW).grown hpg (own_apart (hor.below hbW) (by omega)))
                    have hb8 := hbx.grown hpg hbx.size (fun j hj => by cases hj; exact Nat.le_refl _)
                    have hs8 := Nat.le_trans hsz2 (Nat.le_trans hbW.size hpg.size)
                    have hm8 : Meets (hitE false) l x (oth ++ R.drop (k + 1)) z := by rw [HZ.out]; exact HME2.out.snoc (by rw [HD.out]) HH.out
                    go_roundw
                    case rel => exact ⟨k + 1, z, oth, false, by go_num, by omega, (by have h := HFZ.out; simp only [Bool.false_and] at h; rw [← h]), rfl, ho8.alloc _, hr8.alloc _, hm8, (fun _ z' hz' => by rw [HZ.out, hit_false HH.out]; exact HNO.out (HSB.out (by first | rfl | trivial)) z' hz'), by omega, (fun _ => by omega), hx8.old _, below_new hb8 _, (by rw [World.size_alloc]; exact Nat.le_succ_of_le hs8), (fun h => by first | rfl | cases h | exact absurd h (by simp))⟩
                    case measure => simp [intOf]; omega
                  | true =>
                    go_wp2_with fail
                    have hpg := putW_grown w.heap.size 0 [.int .i64 z.k, .int .i64 z.s, .int .i64 z.e, .int .i64 z.c1, .int .i64 z.s1, .int .i64 z.m1, .int .i64 z.x1, .int .i64 z.c2, .int .i64 z.s2, .int .i64 z.m2, .int .i64 z.x2] 0 w5
                    have hbx : Below w.heap.size w w5 := hb2.trans (hbW.mono hb2.size)
                    have hx8 := ((((((((((hx5.put (by simp) 0 (.int .i64 z.k) (by simp)).put (by simp) 1 (.int .i64 z.s) (by simp)).put (by simp) 2 (.int .i64 z.e) (by simp)).put (by simp) 3 (.int .i64 z.c1) (by simp)).put (by simp) 4 (.int .i64 z.s1) (by simp)).put (by simp) 5 (.int .i64 z.m1) (by simp)).put (by simp) 6 (.int .i64 z.x1) (by simp)).put (by simp) 7 (.int .i64 z.c2) (by simp)).put (by simp) 8 (.int .i64 z.s2) (by simp)).put (by simp) 9 (.int .i64 z.m2) (by simp)).put (by simp) 10 (.int .i64 z.x2) (by simp)
                    have ho8 := ((hou.below hbW).grown hpg (own_apart (hou.below hbW) (by omega)))
                    have hr8 := ((hor.below hbW).grown hpg (own_apart (hor.below hbW) (by omega)))
                    have hb8 := hbx.grown hpg hbx.size (fun j hj => by cases hj; exact Nat.le_refl _)
                    have hs8 := Nat.le_trans hsz2 (Nat.le_trans hbW.size hpg.size)
                    have hm8 : Meets (hitE false) l x (oth ++ R.drop (k + 1)) z := by rw [HZ.out]; exact HME2.out.snoc (by rw [HD.out]) HH.out
                    go_roundw
                    case rel => exact ⟨k + 1, z, oth, false, by go_num, by omega, (by rw [HFZ2.out]), rfl, ho8.alloc _, hr8.alloc _, hm8, (fun _ z' hz' => by rw [HZ.out, hit_false HH.out]; exact HNO.out (HSB.out (by first | rfl | trivial)) z' hz'), by omega, (fun _ => by omega), hx8.old _, below_new hb8 _, (by rw [World.size_alloc]; exact Nat.le_succ_of_le hs8), (fun h => by first | rfl | cases h | exact absurd h (by simp))⟩
                    case measure => simp [intOf]; omega
                | true =>
                  have hL := hloc2
                  have hne : b ≠ wr.heap.size := by omega
                  go_wp2_with fail
                  go_at_call 121
                  refine (bothE_any x2 y _ HX2W.out HYW.out (by have h1 := HBIG.out _ _ HME2.out; have h2 := HBL.out y HYL.out; omega) (by have h1 := HBIG.out _ _ HME2.out; have h2 := HBL.out y HYL.out; omega)).mono ?_
                  rintro r w5 ⟨z, hz, rfl, hb5⟩
                  have hbW : Below wr.heap.size wr w5 := (by repeat (first | with_reducible exact Below.refl _ _ | with_reducible assumption | (with_reducible exact Env.below (by assumption)) | (with_reducible refine below_new ?_ _) | (with_reducible refine below_drew ?_) | (with_reducible refine below_drewN ?_ _) | (with_reducible refine below_put ?_ ?_ _; rotate_left 1; (dsimp only; omega)) | (with_reducible refine below_then ?_ (by assumption))))
                  have HZ := Lib.hid hz
                  have hx5 := hloc2.below hbW
                  clear hz
                  (try clear hF)
                  (try clear hL)
                  have hF := hx5
                  (repeat unfold Loc at hF)
                  have hfz : (F2 && fitE z) = fitE z := by rw [HF2.out, HZ.out]; exact fit_step HX2W.out HYW.out
                  have HFZ := Lib.hid hfz
                  obtain ⟨Fz, hFz⟩ : ∃ Fz, Fz = fitE z := ⟨_, rfl⟩
                  rw [← hFz]
                  have HFZ2 := Lib.hid hFz
                  clear hfz hFz
                  cases F2 with
                  | false =>
                    go_wp2_with fail
                    have hpg := putW_grown w.heap.size 0 [.int .i64 z.k, .int .i64 z.s, .int .i64 z.e, .int .i64 z.c1, .int .i64 z.s1, .int .i64 z.m1, .int .i64 z.x1, .int .i64 z.c2, .int .i64 z.s2, .int .i64 z.m2, .int .i64 z.x2] 0 w5
                    have hbx : Below w.heap.size w w5 := hb2.trans (hbW.mono hb2.size)
                    have hx8 := ((((((((((hx5.put (by simp) 0 (.int .i64 z.k) (by simp)).put (by simp) 1 (.int .i64 z.s) (by simp)).put (by simp) 2 (.int .i64 z.e) (by simp)).put (by simp) 3 (.int .i64 z.c1) (by simp)).put (by simp) 4 (.int .i64 z.s1) (by simp)).put (by simp) 5 (.int .i64 z.m1) (by simp)).put (by simp) 6 (.int .i64 z.x1) (by simp)).put (by simp) 7 (.int .i64 z.c2) (by simp)).put (by simp) 8 (.int .i64 z.s2) (by simp)).put (by simp) 9 (.int .i64 z.m2) (by simp)).put (by simp) 10 (.int .i64 z.x2) (by simp)
                    have ho8 := ((hou.below hbW).grown hpg (own_apart (hou.below hbW) (by omega)))
                    have hr8 := ((hor.below hbW).grown hpg (own_apart (hor.below hbW) (by omega)))
                    have hb8 := hbx.grown hpg hbx.size (fun j hj => by cases hj; exact Nat.le_refl _)
                    have hs8 := Nat.le_trans hsz2 (Nat.le_trans hbW.size hpg.size)
                    have hm8 : Meets (hitE true) l x (oth ++ R.drop (k + 1)) z := by rw [HZ.out]; exact HME2.out.snoc (by rw [HD.out]) HH.out
                    go_roundw
                    case rel => exact ⟨k + 1, z, oth, true, by go_num, by omega, (by have h := HFZ.out; simp only [Bool.false_and] at h; rw [← h]), rfl, ho8.alloc _, hr8.alloc _, hm8, (fun h => by cases h), by omega, (fun _ => by omega), hx8.old _, below_new hb8 _, (by rw [World.size_alloc]; exact Nat.le_succ_of_le hs8), (fun h => by first | rfl | cases h | exact absurd h (by simp))⟩
                    case measure => simp [intOf]; omega
                  | true =>
                    go_wp2_with fail
                    have hpg := putW_grown w.heap.size 0 [.int .i64 z.k, .int .i64 z.s, .int .i64 z.e, .int .i64 z.c1, .int .i64 z.s1, .int .i64 z.m1, .int .i64 z.x1, .int .i64 z.c2, .int .i64 z.s2, .int .i64 z.m2, .int .i64 z.x2] 0 w5
                    have hbx : Below w.heap.size w w5 := hb2.trans (hbW.mono hb2.size)
                    have hx8 := ((((((((((hx5.put (by simp) 0 (.int .i64 z.k) (by simp)).put (by simp) 1 (.int .i64 z.s) (by simp)).put (by simp) 2 (.int .i64 z.e) (by simp)).put (by simp) 3 (.int .i64 z.c1) (by simp)).put (by simp) 4 (.int .i64 z.s1) (by simp)).put (by simp) 5 (.int .i64 z.m1) (by simp)).put (by simp) 6 (.int .i64 z.x1) (by simp)).put (by simp) 7 (.int .i64 z.c2) (by simp)).put (by simp) 8 (.int .i64 z.s2) (by simp)).put (by simp) 9 (.int .i64 z.m2) (by simp)).put (by simp) 10 (.int .i64 z.x2) (by simp)
                    have ho8 := ((hou.below hbW).grown hpg (own_apart (hou.below hbW) (by omega)))
                    have hr8 := ((hor.below hbW).grown hpg (own_apart (hor.below hbW) (by omega)))
                    have hb8 := hbx.grown hpg hbx.size (fun j hj => by cases hj; exact Nat.le_refl _)
                    have hs8 := Nat.le_trans hsz2 (Nat.le_trans hbW.size hpg.size)
                    have hm8 : Meets (hitE true) l x (oth ++ R.drop (k + 1)) z := by rw [HZ.out]; exact HME2.out.snoc (by rw [HD.out]) HH.out
                    go_roundw
                    case rel => exact ⟨k + 1, z, oth, true, by go_num, by omega, (by rw [HFZ2.out]), rfl, ho8.alloc _, hr8.alloc _, hm8, (fun h => by cases h), by omega, (fun _ => by omega), hx8.old _, below_new hb8 _, (by rw [World.size_alloc]; exact Nat.le_succ_of_le hs8), (fun h => by first | rfl | cases h | exact absurd h (by simp))⟩
                    case measure => simp [intOf]; omega
        · obtain rfl : k = m := by omega
          have d1 : decide ((k : Int) < (k : Int)) = false := by simp
          have d1' : decide (k < k) = false := by simp
          have hm9 := HME2.out
          rw [List.drop_of_length_le (by rw [HRM.out]; exact Nat.le_refl _), List.append_nil] at hm9
          obtain ⟨q, hq⟩ : ∃ q, q = oth.length := ⟨_, rfl⟩
          rw [← hq] at hlo
          have hlq : b2 = true → q < k := fun h => by rw [hq]; exact HLT2.out h
          obtain ⟨Ao, co, rfl, -⟩ := own_shape_n hou hq.symm
          have HM9 := Lib.hid hm9; have HQ := Lib.hid hq; have HLQ := Lib.hid hlq
          clear hm9 hq hlq hlt hF2
          go_wp2
          go_roundw
          case rel => exact ⟨q, oth, x2, b2, HQ.out.symm, by omega, by rw [HF2.out], rfl, hou.mono hBpw, HM9.out, HNO.out, hloc2, hb2⟩
          case measure =>
            cases b2 with
            | false => simp [lenV, mB]; omega
            | true => have := HLQ.out rfl; simp [lenV, mB]; omega
end Go.Proofs.Ytbbdepeifdbbdaa
