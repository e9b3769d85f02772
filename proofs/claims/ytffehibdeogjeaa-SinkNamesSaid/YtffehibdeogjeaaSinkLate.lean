/- Chapter 34's example, and the walk of SinkLate. No condition. -/
import Derived.Test.YtffehibdeogjeaaSinkFuncs
namespace Go.Proofs.Ytffehibdeogjeaa
open Go.RowKit Go.ChangeShapes Go.WideShapes Go.ChangeAt Go.Deep

def recok (r : Rc) : Prop := (Lit.int .i64 r.k).wf = true ∧ (Lit.int .i64 r.t).wf = true ∧ (Lit.int .i64 r.v).wf = true
theorem renc_dec (vs : List Value) (h : FitsL [some .i64, some .i64, some .i64] vs) : ∃ x, vs = renc x ∧ recok x := by
  obtain ⟨n, vs', rfl, hw, m, vs2, rfl, hw2, k, vs3, rfl, hw3, rfl⟩ := h
  exact ⟨⟨n, m, k⟩, rfl, hw, hw2, hw3⟩
def rowok (r : Rw) : Prop := (Lit.int .i64 r.k).wf = true ∧ (Lit.int .i64 r.s).wf = true ∧ (Lit.int .i64 r.e).wf = true ∧ (Lit.int .i64 r.a).wf = true ∧ (Lit.int .i64 r.b).wf = true
theorem wenc_dec (vs : List Value) (h : FitsL [some .i64, some .i64, some .i64, some .i64, some .i64] vs) : ∃ x, vs = wenc x ∧ rowok x := by
  obtain ⟨n, vs', rfl, hw, m, vs2, rfl, hw2, k, vs3, rfl, hw3, p, vs4, rfl, hw4, q, vs5, rfl, hw5, rfl⟩ := h
  exact ⟨⟨n, m, k, p, q⟩, rfl, hw, hw2, hw3, hw4, hw5⟩
theorem rd_lit2 {α : Type} {enc : α → List Value} {sz : Nat} (henc : ∀ x, (enc x).length = sz) (w : World) (xs : List α) (t : TypeId) (vs : Array Value) (h : vs = (xs.flatMap enc).toArray) : Rd enc sz (w.alloc (.cells vs t)) (w.alloc (.cells vs t)).heap.size (some ⟨w.heap.size, 0, none⟩) xs := by
  subst h
  intro _
  refine ⟨w.heap.size, 0, rfl, by rw [World.size_alloc]; omega, fun k x hx j u hu => ?_⟩
  rw [World.cell?_alloc_at _ _ _ _ rfl]
  have := flat_at henc xs k j x u hx hu
  simpa using this

set_option maxHeartbeats 4000000 in
set_option maxRecDepth 100000 in
theorem alive34_any (w : World) : Calls Try.prog 46 #[] w fun e w' => e = .returned (.bool true) ∧ Below w.heap.size w w' := by
  have h1 := fun (A : Addr) (c : Nat) (W : World) (h : Rd wenc 5 W W.heap.size (some A) [⟨0, 5, 20, 0, 0⟩, ⟨0, 0, 10, 0, 0⟩, ⟨0, 5, 10, 0, 0⟩]) => rows_any (some A) c 3 [⟨0, 5, 20, 0, 0⟩, ⟨0, 0, 10, 0, 0⟩, ⟨0, 5, 10, 0, 0⟩] W rfl (by intro e; cases e) (by omega) h
  rw [if_neg (by omega), if_neg (by omega), show sortL wlt w0 [⟨0, 5, 20, 0, 0⟩, ⟨0, 0, 10, 0, 0⟩, ⟨0, 5, 10, 0, 0⟩] = [⟨0, 0, 10, 0, 0⟩, ⟨0, 5, 10, 0, 0⟩, ⟨0, 5, 20, 0, 0⟩] by decide] at h1
  have H1 := Lib.hid h1
  clear h1
  go_enter Try.func46, Try.ntmps46
  go_wp2_with fail
  go_at_call 71
  refine (span34_any _ _ _).mono ?_
  rintro r w1 ⟨rfl, hb1⟩
  go_wp2_with fail
  go_at_call 71
  refine (span34_any _ _ _).mono ?_
  rintro r w2 ⟨rfl, hb2⟩
  go_wp2_with fail
  go_at_call 71
  refine (span34_any _ _ _).mono ?_
  rintro r w3 ⟨rfl, hb3⟩
  go_wp2_with fail
  go_at_call 48
  refine (H1.out _ _ _ (rd_lit2 wenc_len w3 _ _ _ rfl)).mono ?_
  rintro r w4 ⟨v4, rfl, own4, hb4⟩
  obtain ⟨A4, c4, rfl, -, z4⟩ := own_shape_z own4 (n := 3) rfl
  go_wp2_with fail
  go_at_call 71
  refine (span34_any _ _ _).mono ?_
  rintro r w5 ⟨rfl, hb5⟩
  go_wp2_with fail
  go_at_call 71
  refine (span34_any _ _ _).mono ?_
  rintro r w6 ⟨rfl, hb6⟩
  go_wp2_with fail
  go_at_call 71
  refine (span34_any _ _ _).mono ?_
  rintro r w7 ⟨rfl, hb7⟩
  go_wp2_with fail
  go_at_call 50
  refine (rsame_any _ _ _ _ 3 3 [⟨0, 0, 10, 0, 0⟩, ⟨0, 5, 10, 0, 0⟩, ⟨0, 5, 20, 0, 0⟩] [⟨0, 0, 10, 0, 0⟩, ⟨0, 5, 10, 0, 0⟩, ⟨0, 5, 20, 0, 0⟩] _ (rd_grown (Own.rd wenc_len own4) (by repeat (first | with_reducible exact Below.refl _ _ | with_reducible assumption | (with_reducible exact Env.below (by assumption)) | (with_reducible refine below_new ?_ _) | (with_reducible refine below_drew ?_) | (with_reducible refine below_drewN ?_ _) | (with_reducible refine below_put ?_ ?_ _; rotate_left 1; (dsimp only; omega)) | (with_reducible refine below_then ?_ (by assumption))))) (rd_lit2 wenc_len w7 _ _ _ rfl) rfl rfl (by omega)).mono ?_
  rintro r w8 ⟨rfl, hb8⟩
  go_wp2
  go_ret
  exact ⟨rfl, (by repeat (first | with_reducible exact Below.refl _ _ | with_reducible assumption | (with_reducible exact Env.below (by assumption)) | (with_reducible refine below_new ?_ _) | (with_reducible refine below_drew ?_) | (with_reducible refine below_drewN ?_ _) | (with_reducible refine below_put ?_ ?_ _; rotate_left 1; (dsimp only; omega)) | (with_reducible refine below_then ?_ (by assumption))))⟩

theorem rlt_cases {a b : Rc} (h : rlt b a = false) : a.t < b.t ∨ (a.t = b.t ∧ a.k < b.k) ∨ (a.t = b.t ∧ a.k = b.k ∧ ¬ b.v < a.v) := by
  unfold rlt at h
  have := of_decide_eq_false h
  omega
theorem srt_next {α : Type} {lt : α → α → Bool} {l : List α} (h : Srt lt l) {k : Nat} {x y : α} (hx : l[k]? = some x) (hy : l[k + 1]? = some y) : lt y x = false := by
  have hk : k + 1 < l.length := (List.getElem?_eq_some_iff.1 hy).1
  have := (List.pairwise_iff_getElem.1 h) k (k + 1) (by omega) hk (by omega)
  rw [List.getElem?_eq_getElem (by omega)] at hx
  rw [List.getElem?_eq_getElem hk] at hy
  rwa [Option.some.inj hx, Option.some.inj hy] at this
/-- How often a record is in a list. -/
def oftenR (l : List Rc) (x : Rc) : Nat := (l.filter fun y => decide (y = x)).length
theorem oftenR_snoc {l : List Rc} {k : Nat} {x y : Rc} (h : l[k]? = some y) : oftenR (l.take (k + 1)) x = oftenR (l.take k) x + if y = x then 1 else 0 := by
  unfold oftenR
  rw [List.take_add_one, h, List.filter_append, List.length_append]
  by_cases e : y = x <;> simp [e]
theorem oftenR_perm {l m : List Rc} (h : l.Perm m) (x : Rc) : oftenR l x = oftenR m x := (h.filter _).length_eq

set_option maxHeartbeats 8000000 in
set_option maxRecDepth 100000 in
theorem sinkLate_yes (w : World) (A : Option Addr) (c n : Nat) (l : List Rc) (hn : l.length = n) (lr : Rd renc 3 w w.heap.size A l) (hz : A = none → c = 0) (h60 : n ≤ 60) :
    Calls Try.prog 10 #[.slice A n c] w fun r w' => r = .returned (.bool true) ∧ Below w.heap.size w w' := by
  have hla := fun W h => late_any A c n l W hn hz (by omega) h
  rw [if_neg (by omega), if_neg (by omega)] at hla
  have hp := sortL_perm rsto r0 l
  have hsr := sortL_srt rsto r0 l
  obtain ⟨S, hS⟩ : ∃ S, S = sortL rlt r0 l := ⟨_, rfl⟩
  rw [← hS] at hla hp hsr
  have hSl : S.length = n := hp.length_eq.trans hn
  have HLA := Lib.hid hla; have HP := Lib.hid hp; have HSR := Lib.hid hsr; have HN := Lib.hid hn; have HSL := Lib.hid hSl
  clear hla hp hsr hn hSl hS hz
  have d0 : decide ((60 : Int) < (n : Int)) = false := by simp; omega
  have d0' : decide (60 < n) = false := by simp; omega
  have d00 : ((n : Int) != (n : Int)) = false := by simp
  go_enter Try.func10, Try.ntmps10
  go_wp2_with fail
  go_at_call 46
  refine (alive34_any _).mono ?_
  rintro r w1 ⟨rfl, hb1⟩
  go_wp2_with fail
  go_at_call 47
  refine (HLA.out _ (rd_grown lr (by repeat (first | with_reducible exact Below.refl _ _ | with_reducible assumption | (with_reducible exact Env.below (by assumption)) | (with_reducible refine below_new ?_ _) | (with_reducible refine below_drew ?_) | (with_reducible refine below_drewN ?_ _) | (with_reducible refine below_put ?_ ?_ _; rotate_left 1; (dsimp only; omega)) | (with_reducible refine below_then ?_ (by assumption)))))).mono ?_
  rintro r w2 ⟨v2, rfl, own2, hb2⟩
  obtain ⟨A2, c2, rfl, -, z2⟩ := own_shape_z own2 HSL.out
  have hb02 : Below w.heap.size w w2 := (by repeat (first | with_reducible exact Below.refl _ _ | with_reducible assumption | (with_reducible exact Env.below (by assumption)) | (with_reducible refine below_new ?_ _) | (with_reducible refine below_drew ?_) | (with_reducible refine below_drewN ?_ _) | (with_reducible refine below_put ?_ ?_ _; rotate_left 1; (dsimp only; omega)) | (with_reducible refine below_then ?_ (by assumption))))
  have rdS := Own.rd renc_len own2
  have rdL := rd_grown lr hb02
  clear own2 z2 hb1 hb2 lr
  go_wp2_with fail
  go_loopw [6] (fun i wr => ∃ j : Nat, i = .int .i64 ((j : Int) + 1) ∧ (j + 1 ≤ n ∨ j = 0) ∧ Below w2.heap.size w2 wr) (fun i _ => n - (intOf i).toNat)
  case atStart => exact ⟨0, by go_num, .inr rfl, Below.refl _ _⟩
  case round =>
    obtain ⟨j, rfl, hj, hb⟩ := hrel
    by_cases hlt : j + 1 < n
    · obtain ⟨x, hx⟩ : ∃ x, S[j]? = some x := ⟨_, List.getElem?_eq_getElem (by rw [HSL.out]; omega)⟩
      obtain ⟨y, hy⟩ : ∃ x, S[j + 1]? = some x := ⟨_, List.getElem?_eq_getElem (by rw [HSL.out]; omega)⟩
      have hc := rlt_cases (srt_next HSR.out hx hy)
      have rdS2 := rd_grown rdS hb
      obtain ⟨b, off, rfl, hbb, f1, f2, f3⟩ := rc_cells rdS2 hx
      obtain ⟨b', off', e', -, g1, g2, g3⟩ := rc_cells rdS2 hy
      simp only [Option.some.injEq, Addr.mk.injEq, and_true] at e'
      obtain ⟨rfl, rfl⟩ := e'
      obtain ⟨x1, x2, x3⟩ := x
      obtain ⟨y1, y2, y3⟩ := y
      dsimp only at f1 f2 f3 g1 g2 g3 hc
      have d1 : decide ((j : Int) + 1 < (n : Int)) = true := by simp; omega
      have e1 : IntKind.i64.wrap ((j : Int) + 1) = (j : Int) + 1 := IntWalk.i64_in _ (by omega)
      have e2 : IntKind.i64.wrap ((j : Int) + 1 + 1) = (j : Int) + 1 + 1 := IntWalk.i64_in _ (by omega)
      have e3 : IntKind.i64.wrap (j : Int) = (j : Int) := IntWalk.i64_in _ (by omega)
      have i1 : (0 : Int) ≤ (j : Int) := by omega
      have i2 : (j : Int) < (n : Int) := by omega
      have i3 : (0 : Int) ≤ (j : Int) + 1 := by omega
      have i4 : (j : Int) + 1 < (n : Int) := by omega
      have i5 : ((j : Int) + 1).toNat = j + 1 := by omega
      clear hx hy rdS2
      rcases hc with h1 | ⟨rfl, h1⟩ | ⟨rfl, rfl, h1⟩
      · have t1 : decide (y2 < x2) = false := by simp; omega
        have t2 : (x2 == y2) = false := by simp; omega
        clear h1
        go_wp2_with fail
        go_region
        all_goals
          go_wp2
          go_roundw
          case rel => exact ⟨j + 1, by go_num, by omega, (by repeat (first | with_reducible exact Below.refl _ _ | with_reducible assumption | (with_reducible exact Env.below (by assumption)) | (with_reducible refine below_new ?_ _) | (with_reducible refine below_drew ?_) | (with_reducible refine below_drewN ?_ _) | (with_reducible refine below_put ?_ ?_ _; rotate_left 1; (dsimp only; omega)) | (with_reducible refine below_then ?_ (by assumption))))⟩
          case measure => simp [intOf]; omega
      · have t1 : decide (y1 < x1) = false := by simp; omega
        have t2 : (x1 == y1) = false := by simp; omega
        clear h1
        go_wp2_with fail
        go_region
        all_goals
          go_wp2
          go_roundw
          case rel => exact ⟨j + 1, by go_num, by omega, (by repeat (first | with_reducible exact Below.refl _ _ | with_reducible assumption | (with_reducible exact Env.below (by assumption)) | (with_reducible refine below_new ?_ _) | (with_reducible refine below_drew ?_) | (with_reducible refine below_drewN ?_ _) | (with_reducible refine below_put ?_ ?_ _; rotate_left 1; (dsimp only; omega)) | (with_reducible refine below_then ?_ (by assumption))))⟩
          case measure => simp [intOf]; omega
      · have t1 : decide (y3 < x3) = false := by simp; omega
        clear h1
        go_wp2_with fail
        go_region
        all_goals
          go_wp2
          go_roundw
          case rel => exact ⟨j + 1, by go_num, by omega, (by repeat (first | with_reducible exact Below.refl _ _ | with_reducible assumption | (with_reducible exact Env.below (by assumption)) | (with_reducible refine below_new ?_ _) | (with_reducible refine below_drew ?_) | (with_reducible refine below_drewN ?_ _) | (with_reducible refine below_put ?_ ?_ _; rotate_left 1; (dsimp only; omega)) | (with_reducible refine below_then ?_ (by assumption))))⟩
          case measure => simp [intOf]; omega
    · have d1 : decide ((j : Int) + 1 < (n : Int)) = false := by simp; omega
      have hb0 := below_then hb02 hb
      have rdS2 := rd_grown rdS hb
      have rdL2 := rd_grown rdL hb
      clear hb02 hb rdS rdL
      go_wp2_with fail
      go_loopw [9] (fun i wp => ∃ k : Nat, k ≤ n ∧ i = .int .i64 k ∧ ∃ q, wp = wr.drewN q) (fun i _ => n - (intOf i).toNat)
      case atStart => exact ⟨0, Nat.zero_le _, rfl, 0, rfl⟩
      case round =>
        obtain ⟨k, hk, rfl, q, rfl⟩ := hrel
        by_cases hkn : k < n
        · obtain ⟨x, hx⟩ : ∃ x, l[k]? = some x := ⟨_, List.getElem?_eq_getElem (by rw [HN.out]; exact hkn)⟩
          have HPX := Lib.hid (oftenR_perm HP.out x)
          obtain ⟨b, off, rfl, hbb, f1, f2, f3⟩ := rc_cells rdL2 hx
          have dk : decide ((k : Int) < (n : Int)) = true := by simp; omega
          have dk' : decide (k < n) = true := by simp [hkn]
          have k1 : (0 : Int) ≤ (k : Int) := by omega
          have k2 : (k : Int) < (n : Int) := by omega
          have ek : IntKind.i64.wrap ((k : Int) + 1) = (k : Int) + 1 := IntWalk.i64_in _ (by omega)
          clear hx
          obtain ⟨wq, hwq⟩ : ∃ wq, wq = wr.drewN q := ⟨_, rfl⟩
          rw [← hwq]
          have rdS3 : Rd renc 3 wq wq.heap.size A2 S := by rw [hwq]; exact rdS2
          have rdL3 : Rd renc 3 wq wq.heap.size (some ⟨b, off, none⟩) l := by rw [hwq]; exact rdL2
          have f1' : wq.cell? ⟨b, off + k * 3, none⟩ = some (.int .i64 x.k) := by rw [hwq]; exact f1
          have f2' : wq.cell? ⟨b, off + k * 3 + 1, none⟩ = some (.int .i64 x.t) := by rw [hwq]; exact f2
          have f3' : wq.cell? ⟨b, off + k * 3 + 2, none⟩ = some (.int .i64 x.v) := by rw [hwq]; exact f3
          have HWQ := Lib.hid hwq
          clear hwq f1 f2 f3
          go_wp2_with fail
          go_loopw [10, 11, 12] (fun nn mm i wp => ∃ (i' z1 z2 : Nat), i' ≤ n ∧ i = .int .i64 i' ∧ nn = .int .i64 z1 ∧ mm = .int .i64 z2 ∧ z1 ≤ i' ∧ z2 ≤ i' ∧ oftenR (l.take i') x = z1 ∧ oftenR (S.take i') x = z2 ∧ ∃ q, wp = wq.drewN q) (fun _ _ i _ => n - (intOf i).toNat)
          case atStart => exact ⟨0, 0, 0, Nat.zero_le _, rfl, rfl, rfl, Nat.le_refl _, Nat.le_refl _, rfl, rfl, 0, rfl⟩
          case round =>
            obtain ⟨i, z1, z2, hi, rfl, rfl, rfl, hz1, hz2, ho1, ho2, q2, rfl⟩ := hrel
            by_cases hin : i < n
            · obtain ⟨y, hy⟩ : ∃ x, l[i]? = some x := ⟨_, List.getElem?_eq_getElem (by rw [HN.out]; exact hin)⟩
              obtain ⟨u, hu⟩ : ∃ x, S[i]? = some x := ⟨_, List.getElem?_eq_getElem (by rw [HSL.out]; exact hin)⟩
              have hs1 := oftenR_snoc (x := x) hy
              have hs2 := oftenR_snoc (x := x) hu
              rw [ho1] at hs1
              rw [ho2] at hs2
              obtain ⟨b', off', e', -, g1, g2, g3⟩ := rc_cells rdL3 hy
              simp only [Option.some.injEq, Addr.mk.injEq, and_true] at e'
              obtain ⟨rfl, rfl⟩ := e'
              obtain ⟨bs, os, rfl, -, p1, p2, p3⟩ := rc_cells rdS3 hu
              have di : decide ((i : Int) < (n : Int)) = true := by simp; omega
              have di' : decide (i < n) = true := by simp [hin]
              have i1 : (0 : Int) ≤ (i : Int) := by omega
              have i2 : (i : Int) < (n : Int) := by omega
              have ei : IntKind.i64.wrap ((i : Int) + 1) = (i : Int) + 1 := IntWalk.i64_in _ (by omega)
              have ez1 : IntKind.i64.wrap ((z1 : Int) + 1) = (z1 : Int) + 1 := IntWalk.i64_in _ (by omega)
              have ez2 : IntKind.i64.wrap ((z2 : Int) + 1) = (z2 : Int) + 1 := IntWalk.i64_in _ (by omega)
              obtain ⟨q1, hq1, hr1⟩ : ∃ q : Bool, (∀ W, (binOp .eql 69 (.agg #[.int .i64 y.k, .int .i64 y.t, .int .i64 y.v]) (.agg #[.int .i64 x.k, .int .i64 x.t, .int .i64 x.v])).run Try.prog W = .ok (.bool q) W) ∧ oftenR (l.take (i + 1)) x = z1 + q.toNat := by
                by_cases he : y = x
                · subst he; exact ⟨true, eql_rec' y, by rw [hs1, if_pos rfl]; rfl⟩
                · exact ⟨false, eql_rec he, by rw [hs1, if_neg he]; rfl⟩
              obtain ⟨q3, hq3, hr3⟩ : ∃ q : Bool, (∀ W, (binOp .eql 69 (.agg #[.int .i64 u.k, .int .i64 u.t, .int .i64 u.v]) (.agg #[.int .i64 x.k, .int .i64 x.t, .int .i64 x.v])).run Try.prog W = .ok (.bool q) W) ∧ oftenR (S.take (i + 1)) x = z2 + q.toNat := by
                by_cases he : u = x
                · subst he; exact ⟨true, eql_rec' u, by rw [hs2, if_pos rfl]; rfl⟩
                · exact ⟨false, eql_rec he, by rw [hs2, if_neg he]; rfl⟩
              have HR1 := Lib.hid hr1; have HR3 := Lib.hid hr3
              clear hy hu hs1 hs2 ho1 ho2 hr1 hr3 rdS3 rdL3
              rcases q1 with _ | _ <;> rcases q3 with _ | _
              all_goals
                go_wp2_with fail
                go_quiet (fail)
                go_wp2_with fail
                go_quiet (fail)
                go_wp2
                go_roundw
                case rel => exact ⟨i + 1, _, _, by omega, by go_num, by go_num, by go_num, by simp; omega, by simp; omega, HR1.out, HR3.out, _, rfl⟩
                case measure => simp [intOf]; omega
            · obtain rfl : n = i := by omega
              have di : decide ((n : Int) < (n : Int)) = false := by simp
              have di' : decide (n < n) = false := by simp
              rw [List.take_of_length_le (by rw [HN.out]; exact Nat.le_refl _)] at ho1
              rw [List.take_of_length_le (by rw [HSL.out]; exact Nat.le_refl _)] at ho2
              obtain rfl : z1 = z2 := by rw [← ho1, ← ho2]; exact HPX.out.symm
              have dz : ((z1 : Int) != (z1 : Int)) = false := by simp
              obtain ⟨q4, hq4⟩ : ∃ q4, wq.drewN q2 = wr.drewN q4 := ⟨q + q2, by rw [HWQ.out]; exact World.drewN_drewN _ _ _⟩
              rw [hq4]
              clear hq4 ho1 ho2
              go_wp2
              go_roundw
              case rel => exact ⟨k + 1, by omega, by go_num, _, rfl⟩
              case measure => simp [intOf]; omega
        · obtain rfl : n = k := by omega
          have dk : decide ((n : Int) < (n : Int)) = false := by simp
          have dk' : decide (n < n) = false := by simp
          have hbq : Below w.heap.size w (wr.drewN q) := below_drewN hb0 _
          go_wp2
          go_ret
          exact ⟨rfl, hbq⟩

set_option maxHeartbeats 8000000 in
set_option maxRecDepth 100000 in
theorem sinkLate_walk {w : World} (A : Option Addr) (c : Nat) (l : List Rc) (_lc : l.length ≤ c) (_lm : c ≤ maxLen) (_lw : ∀ x ∈ l, recok x) (lr : Rd renc 3 w w.heap.size A l) (ln : A = none → c = 0) :
    Calls Try.prog 10 #[.slice A l.length c] w fun r w' => r = .returned (.bool true) ∧ Below w.heap.size w w' := by
  obtain ⟨n, hn⟩ : ∃ n, l.length = n := ⟨_, rfl⟩
  rw [hn] at _lc ⊢
  by_cases h60 : n ≤ 60
  · exact sinkLate_yes w A c n l hn lr ln h60
  · have d0 : decide ((60 : Int) < (n : Int)) = true := by simp; omega
    have d0' : decide (60 < n) = true := by simp; omega
    clear hn
    go_enter Try.func10, Try.ntmps10
    go_wp2_with fail
    go_at_call 46
    refine (alive34_any _).mono ?_
    rintro r w1 ⟨rfl, hb1⟩
    go_wp2
    go_ret
    exact ⟨rfl, (by repeat (first | with_reducible exact Below.refl _ _ | with_reducible assumption | (with_reducible exact Env.below (by assumption)) | (with_reducible refine below_new ?_ _) | (with_reducible refine below_drew ?_) | (with_reducible refine below_drewN ?_ _) | (with_reducible refine below_put ?_ ?_ _; rotate_left 1; (dsimp only; omega)) | (with_reducible refine below_then ?_ (by assumption))))⟩
end Go.Proofs.Ytffehibdeogjeaa
