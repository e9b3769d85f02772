/- Lemmas and contracts for the statement, joined into one text: RefGraph, RefGraph2. The conditions of each stand at its head. -/
import Derived.Test.YtnljihjhmgpcoaaGreatJ40
import Derived.Test.YtnljihjhmgpcoaaGreatJ32
import Derived.Test.YtnljihjhmgpcoaaGreatJ1
namespace Go.Proofs.YtnljihjhmgpcoaaGreat
open Go Go.RowKit Go.ChangeShapes Go.WideShapes Go.ChangeAt Go.Deep
def GrRd (w : World) (A B : Option Addr) (O : List Opn) (C : List Chn) : Prop := Rd openc 2 w w.heap.size A O ∧ Rd chenc 5 w w.heap.size B C
theorem GrRd.grow {w w' : World} {A B : Option Addr} {O : List Opn} {C : List Chn} (h : GrRd w A B O C) (hb : Below w.heap.size w w') : GrRd w' A B O C := ⟨h.1.grow hb, h.2.grow hb⟩
theorem ch_cells {w : World} {B : Nat} {A : Option Addr} {l : List Chn} (h : Rd chenc 5 w B A l) {k : Nat} {x : Chn} (hx : l[k]? = some x) : ∃ b off, A = some ⟨b, off, none⟩ ∧ b < B ∧ w.cell? ⟨b, off + k * 5, none⟩ = some (.int .i64 x.f) ∧ w.cell? ⟨b, off + k * 5 + 1, none⟩ = some (.int .i64 x.o) ∧ w.cell? ⟨b, off + k * 5 + 2, none⟩ = some (.int .i64 x.t) ∧ w.cell? ⟨b, off + k * 5 + 3, none⟩ = some (.int .i64 x.i) ∧ w.cell? ⟨b, off + k * 5 + 4, none⟩ = some (.int .i64 x.r) := by
 obtain ⟨b, off, e, hb, hc⟩ := h.at_ hx
 exact ⟨b, off, e, hb, by simpa using hc 0 _ rfl, hc 1 _ rfl, hc 2 _ rfl, hc 3 _ rfl, hc 4 _ rfl⟩
theorem op_cells {w : World} {B : Nat} {A : Option Addr} {l : List Opn} (h : Rd openc 2 w B A l) {k : Nat} {x : Opn} (hx : l[k]? = some x) : ∃ b off, A = some ⟨b, off, none⟩ ∧ b < B ∧ w.cell? ⟨b, off + k * 2, none⟩ = some (.int .u8 x.kd) ∧ w.cell? ⟨b, off + k * 2 + 1, none⟩ = some (.int .i64 x.n) := by
 obtain ⟨b, off, e, hb, hc⟩ := h.at_ hx
 exact ⟨b, off, e, hb, by simpa using hc 0 _ rfl, hc 1 _ rfl⟩
def NatP (n : Nat) (w : World) (r : Ending) (w' : World) : Prop := r = .returned (.int .i64 (n : Nat)) ∧ Below w.heap.size w w'
theorem cnt_succ (p : Chn → Bool) {C : List Chn} {k : Nat} {x : Chn} (hx : C[k]? = some x) : ((C.take (k + 1)).filter p).length = ((C.take k).filter p).length + if p x = true then 1 else 0 := by
 rw [List.take_add_one, hx, Option.toList, List.filter_append, List.length_append]
 cases h : p x <;> simp [h]
set_option maxHeartbeats 4000000 in
theorem rinputs_any (A B : Option Addr) (co cc no nc : Nat) (O : List Opn) (C : List Chn) (i : Int) (w : World) (hc : C.length = nc) (h100 : nc ≤ 100) (h : GrRd w A B O C) :
  Calls Tryz.prog 68 #[.agg #[.slice A no co, .slice B nc cc], .int .i64 i] w (NatP (insG C i) w) := by
 have HN := Lib.hid hc
 have hr := h.2
 have hl0 := (Loc.nil w).new [.slice A no co, .slice B nc cc] 88
 have hb0 : Below w.heap.size w (w.alloc (.cells #[.slice A no co, .slice B nc cc] 88)) := below_new (Below.refl _ _) _
 clear hc h
 go_enter Tryz.func68, Tryz.ntmps68
 go_wp2_with fail
 go_loopw [5, 6] (fun v i' wr => ∃ k : Nat, k ≤ nc ∧ i' = .int .i64 k ∧ v = .int .i64 (((C.take k).filter fun x => decide (x.t = i)).length : Nat) ∧ Loc wr [(w.heap.size, [.slice A no co, .slice B nc cc])] ∧ Below w.heap.size w wr) (fun _ i' _ => nc - (intOf i').toNat)
 case atStart => exact ⟨0, Nat.zero_le _, rfl, rfl, hl0, hb0⟩
 case round =>
  obtain ⟨k, hk, rfl, rfl, hl, hb⟩ := hrel
  clear hl0 hb0
  have hF := hl
  (repeat unfold Loc at hF)
  have hlen : ((C.take k).filter fun x => decide (x.t = i)).length ≤ k := Nat.le_trans (List.length_filter_le _ _) (by rw [List.length_take]; omega)
  by_cases hlt : k < nc
  ·obtain ⟨x, hx⟩ : ∃ x, C[k]? = some x := ⟨_, List.getElem?_eq_getElem (by rw [HN.out]; exact hlt)⟩
   obtain ⟨b, off, rfl, hbb, f0, f1, f2, f3, f4⟩ := ch_cells (rd_grown hr hb) hx
   have hs := cnt_succ (fun x => decide (x.t = i)) hx
   obtain ⟨c, hcc⟩ : ∃ c, ((C.take k).filter fun x => decide (x.t = i)).length = c := ⟨_, rfl⟩
   rw [hcc] at hs hlen ⊢
   have d1 : decide ((k : Int) < (nc : Int)) = true := by simp; omega
   have d1' : decide (k < nc) = true := by simp [hlt]
   have k1 : (0 : Int) ≤ (k : Int) := by omega
   have k2 : (k : Int) < (nc : Int) := by omega
   have e1 : IntKind.i64.wrap ((k : Int) + 1) = (k : Int) + 1 := IntWalk.i64_in _ (by omega)
   have e2 : IntKind.i64.wrap ((c : Int) + 1) = ((c + 1 : Nat) : Int) := (IntWalk.i64_in _ (by omega)).trans (by omega)
   have HL := Lib.hid hlt
   by_cases he : x.t = i
   ·have de : (x.t == i) = true := by simp [he]
    rw [if_pos (by simp [he])] at hs
    have HS := Lib.hid hs
    clear hlt hx hcc hs he
    go_wp2_with fail
    go_roundw
    case rel => exact ⟨k + 1, HL.out, by go_num, by rw [HS.out]; exact congrArg (Value.int .i64) (by omega), hl, hb⟩
    case measure => have := HL.out; simp [intOf]; omega
   ·have de : (x.t == i) = false := by simp [he]
    rw [if_neg (by simp [he])] at hs
    have HS := Lib.hid hs
    clear hlt hx hcc hs he
    go_wp2_with fail
    go_roundw
    case rel => exact ⟨k + 1, HL.out, by go_num, by rw [HS.out, Nat.add_zero], hl, hb⟩
    case measure => have := HL.out; simp [intOf]; omega
  ·obtain rfl : k = nc := by omega
   have d1 : decide ((k : Int) < (k : Int)) = false := by simp
   have d1' : decide (k < k) = false := by simp
   have htk : C.take k = C := List.take_of_length_le (by rw [HN.out]; exact Nat.le_refl _)
   rw [htk]
   clear htk hlen
   go_wp2_with fail
   go_ret
   exact ⟨rfl, hb⟩
set_option maxHeartbeats 4000000 in
theorem routputs_any (A B : Option Addr) (co cc no nc : Nat) (O : List Opn) (C : List Chn) (i : Int) (w : World) (hc : C.length = nc) (h100 : nc ≤ 100) (h : GrRd w A B O C) :
  Calls Tryz.prog 67 #[.agg #[.slice A no co, .slice B nc cc], .int .i64 i] w (NatP (outsG C i) w) := by
 have HN := Lib.hid hc
 have hr := h.2
 have hl0 := (Loc.nil w).new [.slice A no co, .slice B nc cc] 88
 have hb0 : Below w.heap.size w (w.alloc (.cells #[.slice A no co, .slice B nc cc] 88)) := below_new (Below.refl _ _) _
 clear hc h
 go_enter Tryz.func67, Tryz.ntmps67
 go_wp2_with fail
 go_loopw [5, 6] (fun v i' wr => ∃ k : Nat, k ≤ nc ∧ i' = .int .i64 k ∧ v = .int .i64 (((C.take k).filter fun x => decide (x.f = i)).length : Nat) ∧ Loc wr [(w.heap.size, [.slice A no co, .slice B nc cc])] ∧ Below w.heap.size w wr) (fun _ i' _ => nc - (intOf i').toNat)
 case atStart => exact ⟨0, Nat.zero_le _, rfl, rfl, hl0, hb0⟩
 case round =>
  obtain ⟨k, hk, rfl, rfl, hl, hb⟩ := hrel
  clear hl0 hb0
  have hF := hl
  (repeat unfold Loc at hF)
  have hlen : ((C.take k).filter fun x => decide (x.f = i)).length ≤ k := Nat.le_trans (List.length_filter_le _ _) (by rw [List.length_take]; omega)
  by_cases hlt : k < nc
  ·obtain ⟨x, hx⟩ : ∃ x, C[k]? = some x := ⟨_, List.getElem?_eq_getElem (by rw [HN.out]; exact hlt)⟩
   obtain ⟨b, off, rfl, hbb, f0, f1, f2, f3, f4⟩ := ch_cells (rd_grown hr hb) hx
   have hs := cnt_succ (fun x => decide (x.f = i)) hx
   obtain ⟨c, hcc⟩ : ∃ c, ((C.take k).filter fun x => decide (x.f = i)).length = c := ⟨_, rfl⟩
   rw [hcc] at hs hlen ⊢
   have d1 : decide ((k : Int) < (nc : Int)) = true := by simp; omega
   have d1' : decide (k < nc) = true := by simp [hlt]
   have k1 : (0 : Int) ≤ (k : Int) := by omega
   have k2 : (k : Int) < (nc : Int) := by omega
   have e1 : IntKind.i64.wrap ((k : Int) + 1) = (k : Int) + 1 := IntWalk.i64_in _ (by omega)
   have e2 : IntKind.i64.wrap ((c : Int) + 1) = ((c + 1 : Nat) : Int) := (IntWalk.i64_in _ (by omega)).trans (by omega)
   have HL := Lib.hid hlt
   by_cases he : x.f = i
   ·have de : (x.f == i) = true := by simp [he]
    rw [if_pos (by simp [he])] at hs
    have HS := Lib.hid hs
    clear hlt hx hcc hs he
    go_wp2_with fail
    go_roundw
    case rel => exact ⟨k + 1, HL.out, by go_num, by rw [HS.out]; exact congrArg (Value.int .i64) (by omega), hl, hb⟩
    case measure => have := HL.out; simp [intOf]; omega
   ·have de : (x.f == i) = false := by simp [he]
    rw [if_neg (by simp [he])] at hs
    have HS := Lib.hid hs
    clear hlt hx hcc hs he
    go_wp2_with fail
    go_roundw
    case rel => exact ⟨k + 1, HL.out, by go_num, by rw [HS.out, Nat.add_zero], hl, hb⟩
    case measure => have := HL.out; simp [intOf]; omega
  ·obtain rfl : k = nc := by omega
   have d1 : decide ((k : Int) < (k : Int)) = false := by simp
   have d1' : decide (k < k) = false := by simp
   have htk : C.take k = C := List.take_of_length_le (by rw [HN.out]; exact Nat.le_refl _)
   rw [htk]
   clear htk hlen
   go_wp2_with fail
   go_ret
   exact ⟨rfl, hb⟩
theorem rbetween_any (n a b : Int) (w : World) : Calls Tryz.prog 102 #[.int .i64 n, .int .i64 a, .int .i64 b] w fun r w' => r = .returned (.bool (decide (a ≤ n) && decide (n ≤ b))) ∧ w' = w := by
 by_cases h : a ≤ n
 ·obtain ⟨x, hx⟩ : ∃ x, decide (n ≤ b) = x := ⟨_, rfl⟩
  have d1 : decide (a ≤ n) = true := by simp [h]
  rw [d1, hx]
  clear h
  go_enter Tryz.func102, Tryz.ntmps102
  go_wp2
  go_ret
  exact ⟨by simp, rfl⟩
 ·have d1 : decide (a ≤ n) = false := by simp [h]
  rw [d1]
  clear h
  go_enter Tryz.func102, Tryz.ntmps102
  go_wp2
  go_ret
  exact ⟨by simp, rfl⟩
theorem rmany_any (kd i o : Int) (h : manyB kd i o = true) (w : World) : Calls Tryz.prog 69 #[.int .u8 kd, .int .i64 i, .int .i64 o] w fun r w' => r = .returned (.bool true) ∧ w' = w := by
 have HB := Lib.hid (fun n a b (hab : a ≤ n ∧ n ≤ b) W => show Calls Tryz.prog 102 #[.int .i64 n, .int .i64 a, .int .i64 b] W (fun r w' => r = .returned (.bool true) ∧ w' = W) by have := rbetween_any n a b W; rwa [show (decide (a ≤ n) && decide (n ≤ b)) = true by simp [hab]] at this)
 unfold manyB at h
 by_cases h1 : kd = 1
 ·subst h1
  simp at h
  obtain ⟨rfl, rfl⟩ := h
  go_enter Tryz.func69, Tryz.ntmps69
  go_wp2
  go_ret
  exact ⟨rfl, rfl⟩
 ·by_cases h2 : kd = 2
  ·subst h2
   simp at h
   obtain ⟨rfl, ho⟩ := h
   have H := Lib.hid (HB.out o 1 2 ho)
   go_enter Tryz.func69, Tryz.ntmps69
   go_wp2_with (go_at_call 102; refine (H.out _).mono ?_; rintro r x ⟨rfl, rfl⟩)
   go_ret
   exact ⟨rfl, rfl⟩
  ·by_cases h3 : kd = 3
   ·subst h3
    simp at h
    obtain ⟨rfl, ho⟩ := h
    have H := Lib.hid (HB.out o 1 3 ho)
    go_enter Tryz.func69, Tryz.ntmps69
    go_wp2_with (go_at_call 102; refine (H.out _).mono ?_; rintro r x ⟨rfl, rfl⟩)
    go_ret
    exact ⟨rfl, rfl⟩
   ·by_cases h4 : kd = 4
    ·subst h4
     simp at h
     obtain ⟨ho, rfl⟩ := h
     have H := Lib.hid (HB.out i 1 4 ho)
     go_enter Tryz.func69, Tryz.ntmps69
     go_wp2_with (go_at_call 102; refine (H.out _).mono ?_; rintro r x ⟨rfl, rfl⟩)
     go_ret
     exact ⟨rfl, rfl⟩
    ·by_cases h5 : kd = 5
     ·subst h5
      simp at h
      obtain ⟨rfl, rfl⟩ := h
      go_enter Tryz.func69, Tryz.ntmps69
      go_wp2
      go_ret
      exact ⟨rfl, rfl⟩
     ·by_cases h6 : kd = 6
      ·subst h6
       simp at h
       obtain ⟨ho, rfl⟩ := h
       have H := Lib.hid (HB.out i 1 3 ho)
       go_enter Tryz.func69, Tryz.ntmps69
       go_wp2_with (go_at_call 102; refine (H.out _).mono ?_; rintro r x ⟨rfl, rfl⟩)
       go_ret
       exact ⟨rfl, rfl⟩
      ·rw [if_neg h1, if_neg h2, if_neg h3, if_neg h4, if_neg h5, if_neg h6] at h
       simp only [Bool.and_eq_true, decide_eq_true_eq] at h
       obtain ⟨⟨rfl, ho⟩, rfl⟩ := h
       have H := Lib.hid (HB.out i 1 4 ho)
       go_enter Tryz.func69, Tryz.ntmps69
       go_wp2_with (go_at_call 102; refine (H.out _).mono ?_; rintro r x ⟨rfl, rfl⟩)
       go_ret
       exact ⟨rfl, rfl⟩
/-- A channel's ends are operators. -/
def endsOk (n : Nat) (c : Chn) : Prop := (0 ≤ c.f ∧ c.f < n) ∧ (0 ≤ c.t ∧ c.t < n)
def RchP (l : List Bool) (w : World) (r : Ending) (w' : World) : Prop := ∃ v, r = .returned v ∧ Own blenc 1 w' w.heap.size 4 v l ∧ Below w.heap.size w w'
theorem rch_take {frm : Int} {C : List Chn} {k : Nat} {x : Chn} (hx : C[k]? = some x) (out : List Bool) : rchRound frm (C.take (k + 1)) out = rchStep frm (rchRound frm (C.take k) out) x := by
 unfold rchRound
 rw [List.take_add_one, hx, Option.toList, List.foldl_append]
 rfl
theorem rchStep_len (frm : Int) (out : List Bool) (c : Chn) : (rchStep frm out c).length = out.length := by unfold rchStep; split <;> simp
theorem rchRound_len (frm : Int) (C : List Chn) : ∀ out : List Bool, (rchRound frm C out).length = out.length := by
 induction C with
 | nil => intro out; rfl
 | cons c C ih => intro out; unfold rchRound at *; rw [List.foldl_cons, ih, rchStep_len]
theorem rchN_succ (frm : Int) (C : List Chn) : ∀ (n : Nat) (out : List Bool), rchN frm C (n + 1) out = rchRound frm C (rchN frm C n out)
 | 0, _ => rfl
 | n + 1, out => by
  show rchN frm C (n + 1) (rchRound frm C out) = _
  rw [rchN_succ frm C n]
  rfl
theorem rchN_len (frm : Int) (C : List Chn) : ∀ (n : Nat) (out : List Bool), (rchN frm C n out).length = out.length
 | 0, _ => rfl
 | n + 1, out => by rw [rchN_succ, rchRound_len, rchN_len]
set_option maxHeartbeats 8000000 in
theorem rreach_any (A B : Option Addr) (co cc no nc : Nat) (O : List Opn) (C : List Chn) (i : Nat) (w : World) (ho : O.length = no) (hc : C.length = nc) (h20 : no ≤ 100) (h100 : nc ≤ 200) (_hin : i < no) (hends : ∀ c ∈ C, endsOk no c) (h : GrRd w A B O C) :
  Calls Tryz.prog 70 #[.agg #[.slice A no co, .slice B nc cc], .int .i64 i] w (RchP (reachB O C i) w) := by
 have HO := Lib.hid ho; have HN := Lib.hid hc; have HE := Lib.hid hends
 have hr := h.2
 have hl0 := (Loc.nil w).new [.slice A no co, .slice B nc cc] 88
 have hb0 : Below w.heap.size w (w.alloc (.cells #[.slice A no co, .slice B nc cc] 88)) := below_new (Below.refl _ _) _
 have hmk := fun W => make_run (P := Tryz.prog) bl_info Tryz.underlying144 bl_len false rfl (by decide) (by decide) no (by omega) W
 have hl1 := hl0.old (.cells ((List.replicate no false).flatMap blenc).toArray 4)
 have hb1 : Below w.heap.size w ((w.alloc (.cells #[.slice A no co, .slice B nc cc] 88)).alloc (.cells ((List.replicate no false).flatMap blenc).toArray 4)) := below_new hb0 _
 have own1 := make_own bl_len false 4 no (by omega) (w.heap.size + 1) (w.alloc (.cells #[.slice A no co, .slice B nc cc] 88)) (by simp)
 rw [World.size_alloc] at own1
 clear ho hc h hends
 go_enter Tryz.func70, Tryz.ntmps70
 go_wp2_with fail
 obtain ⟨gb, hgb⟩ : ∃ gb, w.heap.size = gb := ⟨_, rfl⟩
 have HGB := Lib.hid hgb
 rw [hgb] at hl1 own1
 (try simp only [hgb])
 clear hl0 hb0 hmk hgb
 go_loopw [6] (fun j wr => ∃ k : Nat, k ≤ no + 1 ∧ j = .int .i64 k ∧ Own blenc 1 wr (gb + 1) 4 (.slice (some ⟨gb + 1, 0, none⟩) no no) (rchN i C k (List.replicate no false)) ∧ Loc wr [(gb, [.slice A no co, .slice B nc cc])] ∧ Below w.heap.size w wr) (fun j _ => no + 1 - (intOf j).toNat)
 case atStart => exact ⟨0, Nat.zero_le _, rfl, own1, hl1, hb1⟩
 case round =>
  obtain ⟨k, hk, rfl, own, hl, hb⟩ := hrel
  clear own1 hl1 hb1
  by_cases hlt : k ≤ no
  ·have d1 : decide ((k : Int) ≤ (no : Int)) = true := by simp; omega
   have d1' : decide (k ≤ no) = true := by simp [hlt]
   have e1 : IntKind.i64.wrap ((k : Int) + 1) = (k : Int) + 1 := IntWalk.i64_in _ (by omega)
   obtain ⟨out0, hout⟩ : ∃ l, rchN i C k (List.replicate no false) = l := ⟨_, rfl⟩
   have hsu := rchN_succ (i : Int) C k (List.replicate no false)
   have hol : out0.length = no := by rw [← hout, rchN_len]; simp
   rw [hout] at own hsu
   obtain ⟨wo, rfl⟩ : ∃ x, x = wr := ⟨_, rfl⟩
   have hF := hl
   (repeat unfold Loc at hF)
   have HL := Lib.hid hlt; have HSU := Lib.hid hsu; have HOL := Lib.hid hol; have HOWN := Lib.hid own; have HLO := Lib.hid hl; have HB := Lib.hid hb
   clear hlt hout hsu hol own hl hb
   go_wp2_with fail
   go_loopw [7] (fun j wr => ∃ p : Nat, p ≤ nc ∧ j = .int .i64 p ∧ Own blenc 1 wr (gb + 1) 4 (.slice (some ⟨gb + 1, 0, none⟩) no no) (rchRound i (C.take p) out0) ∧ Loc wr [(gb, [.slice A no co, .slice B nc cc])] ∧ Below w.heap.size w wr) (fun j _ => nc - (intOf j).toNat)
   case atStart => exact ⟨0, Nat.zero_le _, rfl, HOWN.out, HLO.out, HB.out⟩
   case round =>
    obtain ⟨p, hp, rfl, own, hl, hb⟩ := hrel
    clear hF
    have hF := hl
    (repeat unfold Loc at hF)
    by_cases hlt : p < nc
    ·obtain ⟨x, hx⟩ : ∃ x, C[p]? = some x := ⟨_, List.getElem?_eq_getElem (by rw [HN.out]; exact hlt)⟩
     obtain ⟨b, off, rfl, hbb, f0, f1, f2, f3, f4⟩ := ch_cells (rd_grown hr hb) hx
     obtain ⟨⟨x1, x2⟩, ⟨x3, x4⟩⟩ := HE.out x (List.mem_of_getElem? hx)
     have hstep := rch_take (frm := (i : Int)) hx out0
     obtain ⟨out1, hout⟩ : ∃ l, rchRound i (C.take p) out0 = l := ⟨_, rfl⟩
     have hol : out1.length = no := by rw [← hout, rchRound_len, HOL.out]
     rw [hout] at own hstep
     have d2 : decide ((p : Int) < (nc : Int)) = true := by simp; omega
     have d2' : decide (p < nc) = true := by simp [hlt]
     have k1 : (0 : Int) ≤ (p : Int) := by omega
     have k2 : (p : Int) < (nc : Int) := by omega
     have e2 : IntKind.i64.wrap ((p : Int) + 1) = (p : Int) + 1 := IntWalk.i64_in _ (by omega)
     obtain ⟨xf, xo, xt, xi, xr⟩ := x
     simp only at f0 f1 f2 f3 f4 x1 x2 x3 x4
     obtain ⟨fn, rfl⟩ : ∃ n : Nat, xf = n := ⟨xf.toNat, by omega⟩
     obtain ⟨tn, rfl⟩ : ∃ n : Nat, xt = n := ⟨xt.toNat, by omega⟩
     obtain ⟨bf, hbf⟩ : ∃ b, out1[fn]? = some b := ⟨_, List.getElem?_eq_getElem (by omega)⟩
     obtain ⟨bt, hbt⟩ : ∃ b, out1[tn]? = some b := ⟨_, List.getElem?_eq_getElem (by omega)⟩
     have hrd := Own.rd bl_len own
     obtain ⟨b5, o5, e5, -, q1⟩ := bl_at hrd hbf
     simp only [Option.some.injEq, Addr.mk.injEq, and_true] at e5
     obtain ⟨rfl, rfl⟩ := e5
     obtain ⟨b6, o6, e6, -, q2⟩ := bl_at hrd hbt
     simp only [Option.some.injEq, Addr.mk.injEq, and_true] at e6
     obtain ⟨rfl, rfl⟩ := e6
     rw [Nat.zero_add] at q1 q2
     have q3 := own_frozen own tn
     have hgl : gb + 1 < wr.heap.size := (World.ownsRow.lt own (gb + 1) rfl).2
     have hput := own_put1 bl_len (x' := true) (u := .bool true) own hbt (j := 0) (q := tn) (by decide) rfl (by omega)
     have hfo : out1.getD (fn : Int).toNat false = bf := by rw [Int.toNat_natCast, List.getD_eq_getElem?_getD, hbf]; rfl
     unfold rchStep at hstep
     simp only [Int.toNat_natCast] at hstep hfo
     rw [hfo] at hstep
     have HLP := Lib.hid hlt; have HL9 := Lib.hid hl; have HB9 := Lib.hid hb; have HPUT := Lib.hid hput; have HOW9 := Lib.hid own
     have hz := hl.1
     by_cases he : (fn : Int) = (i : Int)
     ·have de : ((fn : Int) == (i : Int)) = true := by simp [he]
      have de' : (fn == i) = true := by simp; omega
      rw [if_pos (.inl he)] at hstep
      have HST := Lib.hid hstep
      clear hlt hx hout hol hstep hbf hbt hrd hput hfo he own hl hb
      go_wp2_with fail
      go_roundw
      case rel => exact ⟨p + 1, HLP.out, by go_num, by rw [HST.out]; exact HPUT.out.alloc _, (Loc.far (p := ⟨gb + 1, tn, none⟩) _ (by intro z hz'; rw [List.mem_singleton] at hz'; subst hz'; simp only; omega) (HL9.out)).old _, below_new (below_put' HB9.out (by rw [HGB.out]; omega) _ _) _⟩
      case measure => have := HLP.out; simp [intOf]; omega
     ·have de : ((fn : Int) == (i : Int)) = false := by simp; omega
      have de' : (fn == i) = false := by simp; omega
      cases bf
      ·rw [if_neg (by rintro (h | h); exact he h; cases h)] at hstep
       have HST := Lib.hid hstep
       clear hlt hx hout hol hstep hbf hbt hrd hput hfo he own hl hb
       go_wp2_with fail
       go_roundw
       case rel => exact ⟨p + 1, HLP.out, by go_num, by rw [HST.out]; exact HOW9.out.alloc _, HL9.out.old _, below_new HB9.out _⟩
       case measure => have := HLP.out; simp [intOf]; omega
      ·rw [if_pos (.inr rfl)] at hstep
       have HST := Lib.hid hstep
       clear hlt hx hout hol hstep hbf hbt hrd hput hfo he own hl hb
       go_wp2_with fail
       go_roundw
       case rel => exact ⟨p + 1, HLP.out, by go_num, by rw [HST.out]; exact HPUT.out.alloc _, (Loc.far (p := ⟨gb + 1, tn, none⟩) _ (by intro z hz'; rw [List.mem_singleton] at hz'; subst hz'; simp only; omega) (HL9.out)).old _, below_new (below_put' HB9.out (by rw [HGB.out]; omega) _ _) _⟩
       case measure => have := HLP.out; simp [intOf]; omega
    ·obtain rfl : p = nc := by omega
     have d2 : decide ((p : Int) < (p : Int)) = false := by simp
     have d2' : decide (p < p) = false := by simp
     have htk : C.take p = C := List.take_of_length_le (by rw [HN.out]; exact Nat.le_refl _)
     rw [htk, ← HSU.out] at own
     have HOW := Lib.hid own
     clear htk hlt own
     go_wp2_with fail
     go_roundw
     case rel => exact ⟨k + 1, by have := HL.out; omega, by go_num, HOW.out, hl, hb⟩
     case measure => have := HL.out; simp [intOf]; omega
  ·obtain rfl : k = no + 1 := by omega
   have d1 : decide (((no + 1 : Nat) : Int) ≤ (no : Int)) = false := by simp; omega
   have d1' : decide (no + 1 ≤ no) = false := by simp
   have d1'' : decide ((no : Int) + 1 ≤ (no : Int)) = false := by simp; omega
   have hF := hl
   (repeat unfold Loc at hF)
   have hre : reachB O C i = rchN i C (no + 1) (List.replicate no false) := by unfold reachB; rw [HO.out]
   rw [← hre] at own
   have HOW := Lib.hid own
   clear hre own
   go_wp2_with fail
   go_ret
   exact ⟨_, rfl, HOW.out.mono (by rw [HGB.out]; omega), hb⟩
theorem ch_getD {C : List Chn} {k : Nat} {x : Chn} (h : C[k]? = some x) : C.getD k default = x := by rw [List.getD_eq_getElem?_getD, h]; rfl
theorem apart_no {C : List Chn} {i k : Nat} {c d : Chn} (h : apartB C i = true) (hi : C[i]? = some c) (hk : C[k]? = some d) (hki : k < i) : clashB c d = false := by
 unfold apartB at h
 rw [Bool.not_eq_true', List.any_eq_false] at h
 have h1 := h d (List.mem_iff_getElem?.2 ⟨k, by rw [List.getElem?_take, if_pos hki]; exact hk⟩)
 rw [ch_getD hi] at h1
 simpa using h1
set_option maxHeartbeats 8000000 in
set_option maxRecDepth 100000 in
theorem rapart_any (A B : Option Addr) (co cc no nc : Nat) (O : List Opn) (C : List Chn) (i : Nat) (w : World) (hc : C.length = nc) (h100 : nc ≤ 200) (hin : i < nc) (hap : apartB C i = true) (h : GrRd w A B O C) :
  Calls Tryz.prog 66 #[.agg #[.slice A no co, .slice B nc cc], .int .i64 i] w fun r w' => r = .returned (.bool true) ∧ Below w.heap.size w w' := by
 have HN := Lib.hid hc; have HAP := Lib.hid hap
 have hr := h.2
 obtain ⟨c, hci⟩ : ∃ c, C[i]? = some c := ⟨_, List.getElem?_eq_getElem (by rw [hc]; exact hin)⟩
 obtain ⟨b0, o0, rfl, hb00, c0, c1, c2, c3, c4⟩ := ch_cells hr hci
 have HCI := Lib.hid hci
 obtain ⟨cf, co', ct, ci, cr⟩ := c
 simp only at c0 c1 c2 c3 c4
 have hl0 := ((Loc.nil w).new [.slice A no co, .slice (some ⟨b0, o0, none⟩) nc cc] 88).new [.int .i64 cf, .int .i64 co', .int .i64 ct, .int .i64 ci, .int .i64 cr] 139
 rw [World.size_alloc] at hl0
 have hb0 : Below w.heap.size w ((w.alloc (.cells #[.slice A no co, .slice (some ⟨b0, o0, none⟩) nc cc] 88)).alloc (.cells #[.int .i64 cf, .int .i64 co', .int .i64 ct, .int .i64 ci, .int .i64 cr] 139)) := below_new (below_new (Below.refl _ _) _) _
 obtain ⟨gb, hgb⟩ : ∃ gb, w.heap.size = gb := ⟨_, rfl⟩
 have HGB := Lib.hid hgb
 rw [hgb] at hl0
 have hb01 : b0 < gb := by rw [← hgb]; exact hb00
 have i1 : (0 : Int) ≤ (i : Int) := by omega
 have i2 : (i : Int) < (nc : Int) := by omega
 clear hc hap h hci
 go_enter Tryz.func66, Tryz.ntmps66
 (try simp only [hgb])
 go_wp2_with fail
 (try simp only [HGB.out])
 go_loopw [6] (fun j wr => ∃ k : Nat, k ≤ i ∧ j = .int .i64 k ∧ Loc wr [(gb + 1, [.int .i64 cf, .int .i64 co', .int .i64 ct, .int .i64 ci, .int .i64 cr]), (gb, [.slice A no co, .slice (some ⟨b0, o0, none⟩) nc cc])] ∧ Below w.heap.size w wr) (fun j _ => i - (intOf j).toNat)
 case atStart => exact ⟨0, Nat.zero_le _, rfl, hl0, hb0⟩
 case round =>
  obtain ⟨k, hk, rfl, hl, hb⟩ := hrel
  clear hl0 hb0
  have hF := hl
  (repeat unfold Loc at hF)
  by_cases hlt : k < i
  ·obtain ⟨d, hd⟩ : ∃ d, C[k]? = some d := ⟨_, List.getElem?_eq_getElem (by rw [HN.out]; omega)⟩
   obtain ⟨b1, o1, e1, hb1, f0, f1, f2, f3, f4⟩ := ch_cells (rd_grown hr hb) hd
   simp only [Option.some.injEq, Addr.mk.injEq, and_true] at e1
   obtain ⟨rfl, rfl⟩ := e1
   have hno := apart_no HAP.out HCI.out hd hlt
   obtain ⟨df, do_, dt, di, dr⟩ := d
   simp only at f0 f1 f2 f3 f4
   unfold clashB at hno
   simp only [Bool.or_eq_false_iff, Bool.and_eq_false_iff, decide_eq_false_iff_not] at hno
   obtain ⟨⟨n1, n2⟩, n3⟩ := hno
   have d1 : decide ((k : Int) < (i : Int)) = true := by simp; omega
   have d1' : decide (k < i) = true := by simp [hlt]
   have k1 : (0 : Int) ≤ (k : Int) := by omega
   have k2 : (k : Int) < (nc : Int) := by omega
   have ek : IntKind.i64.wrap ((k : Int) + 1) = (k : Int) + 1 := IntWalk.i64_in _ (by omega)
   have g1 : decide (cf < df) = false := by simp; omega
   have HL := Lib.hid hlt; have HLOC := Lib.hid hl; have HB := Lib.hid hb
   have hz := hl.1
   clear hlt hd hl hb n1
   by_cases q1 : df = cf
   ·have p1 : (df == cf) = true := by simp [q1]
    have p2 : decide (co' ≤ do_) = false := by
     rcases n2 with n2 | n2
     ·exact absurd q1 n2
     ·simpa using n2
    by_cases q2 : dt = ct
    ·have p3 : (dt == ct) = true := by simp [q2]
     have p4 : (di == ci) = false := by
      rcases n3 with n3 | n3
      ·exact absurd q2 n3
      ·simpa using n3
     clear n2 n3 q1 q2
     go_wp2_with fail
     go_roundw
     case rel => exact ⟨k + 1, HL.out, by go_num, HLOC.out.old _, below_new HB.out _⟩
     case measure => have := HL.out; simp [intOf]; omega
    ·have p3 : (dt == ct) = false := by simp [q2]
     clear n2 n3 q1 q2
     go_wp2_with fail
     go_roundw
     case rel => exact ⟨k + 1, HL.out, by go_num, HLOC.out.old _, below_new HB.out _⟩
     case measure => have := HL.out; simp [intOf]; omega
   ·have p1 : (df == cf) = false := by simp [q1]
    by_cases q2 : dt = ct
    ·have p3 : (dt == ct) = true := by simp [q2]
     have p4 : (di == ci) = false := by
      rcases n3 with n3 | n3
      ·exact absurd q2 n3
      ·simpa using n3
     clear n2 n3 q1 q2
     go_wp2_with fail
     go_roundw
     case rel => exact ⟨k + 1, HL.out, by go_num, HLOC.out.old _, below_new HB.out _⟩
     case measure => have := HL.out; simp [intOf]; omega
    ·have p3 : (dt == ct) = false := by simp [q2]
     clear n2 n3 q1 q2
     go_wp2_with fail
     go_roundw
     case rel => exact ⟨k + 1, HL.out, by go_num, HLOC.out.old _, below_new HB.out _⟩
     case measure => have := HL.out; simp [intOf]; omega
  ·obtain rfl : k = i := by omega
   have d1 : decide ((k : Int) < (k : Int)) = false := by simp
   have d1' : decide (k < k) = false := by simp
   go_wp2_with fail
   go_ret
   exact ⟨rfl, by first | exact hb | (rw [← HGB.out]; exact hb)⟩
theorem loc_swap {w : World} {x y : Nat × List Value} {l : List (Nat × List Value)} (h : Loc w (x :: y :: l)) : Loc w (y :: x :: l) := by
 obtain ⟨a, b⟩ := x
 obtain ⟨c, d⟩ := y
 obtain ⟨h1, h2, h3, h4, h5, h6, h7⟩ := h
 exact ⟨h4, h5, h6, h1, h2, h3, h7⟩
structure GrOk (O : List Opn) (C : List Chn) : Prop where
 few : O.length ≤ 20 ∧ C.length ≤ 100
 rng : ∀ c ∈ C, rangeB O.length c = true
 chn : ∀ i, i < C.length → chanB C i = true
 ops : ∀ i, i < O.length → opB O C i = true
theorem grOk_of {O : List Opn} {C : List Chn} (hf : O.length ≤ 20 ∧ C.length ≤ 100) (h : validB O C = true) : GrOk O C := by
 unfold validB at h
 simp only [Bool.and_eq_true, List.all_eq_true, List.mem_range] at h
 exact ⟨hf, h.1.1, h.1.2, h.2⟩
set_option maxHeartbeats 32000000 in
set_option maxRecDepth 100000 in
theorem rvalid_any (A B : Option Addr) (co cc no nc : Nat) (O : List Opn) (C : List Chn) (w : World) (ho : O.length = no) (hc : C.length = nc) (hg : GrOk O C) (h : GrRd w A B O C) :
  Calls Tryz.prog 29 #[.agg #[.slice A no co, .slice B nc cc]] w fun r w' => r = .returned (.bool true) ∧ Below w.heap.size w w' := by
 obtain ⟨h20, h100⟩ := hg.few
 rw [ho] at h20
 rw [hc] at h100
 have HO := Lib.hid ho; have HN := Lib.hid hc; have HG := Lib.hid hg; have HH := Lib.hid h
 have hro := h.1
 have hr := h.2
 have hends : ∀ c ∈ C, endsOk no c := fun c hcm => by
  have := hg.rng c hcm
  unfold rangeB at this
  rw [ho] at this
  simp only [Bool.and_eq_true, decide_eq_true_eq] at this
  exact ⟨by omega, by omega⟩
 have HENDS := Lib.hid hends
 have hl0 := (Loc.nil w).new [.slice A no co, .slice B nc cc] 88
 have hb0 : Below w.heap.size w (w.alloc (.cells #[.slice A no co, .slice B nc cc] 88)) := below_new (Below.refl _ _) _
 obtain ⟨gb, hgb⟩ : ∃ gb, w.heap.size = gb := ⟨_, rfl⟩
 have HGB := Lib.hid hgb
 rw [hgb] at hl0
 clear ho hc hg h hends
 go_enter Tryz.func29, Tryz.ntmps29
 (try simp only [hgb])
 go_wp2_with fail
 (try simp only [HGB.out])
 go_loopw [3] (fun j wr => ∃ k : Nat, k ≤ nc ∧ j = .int .i64 k ∧ Loc wr [(gb, [.slice A no co, .slice B nc cc])] ∧ Below w.heap.size w wr) (fun j _ => nc - (intOf j).toNat)
 case atStart => exact ⟨0, Nat.zero_le _, rfl, hl0, hb0⟩
 case round =>
  obtain ⟨k, hk, rfl, hl, hb⟩ := hrel
  clear hl0 hb0
  have hF := hl
  (repeat unfold Loc at hF)
  by_cases hlt : k < nc
  ·obtain ⟨d, hd⟩ : ∃ d, C[k]? = some d := ⟨_, List.getElem?_eq_getElem (by rw [HN.out]; omega)⟩
   obtain ⟨b1, o1, rfl, hb1, f0, f1, f2, f3, f4⟩ := ch_cells (rd_grown hr hb) hd
   have hrg := HG.out.rng d (List.mem_of_getElem? hd)
   obtain ⟨df, do_, dt, di, dr⟩ := d
   simp only at f0 f1 f2 f3 f4
   unfold rangeB at hrg
   rw [HO.out] at hrg
   simp only [Bool.and_eq_true, decide_eq_true_eq] at hrg
   have d1 : decide ((k : Int) < (nc : Int)) = true := by simp; omega
   have d1' : decide (k < nc) = true := by simp [hlt]
   have k1 : (0 : Int) ≤ (k : Int) := by omega
   have k2 : (k : Int) < (nc : Int) := by omega
   have ek : IntKind.i64.wrap ((k : Int) + 1) = (k : Int) + 1 := IntWalk.i64_in _ (by omega)
   have p1 : decide (df < 0) = false := by simp; omega
   have p2 : decide (dt < 0) = false := by simp; omega
   have p3 : decide ((no : Int) ≤ df) = false := by simp; omega
   have p4 : decide ((no : Int) ≤ dt) = false := by simp; omega
   have p5 : decide (dr < 1) = false := by simp; omega
   have p6 : decide (8 < dr) = false := by simp; omega
   have HL := Lib.hid hlt; have HLOC := Lib.hid hl; have HB := Lib.hid hb
   have hz := hl.1
   clear hlt hd hl hb hrg
   go_wp2_with fail
   go_roundw
   case rel => exact ⟨k + 1, HL.out, by go_num, HLOC.out.old _, below_new HB.out _⟩
   case measure => have := HL.out; simp [intOf]; omega
  ·obtain rfl : nc = k := by omega
   have d1 : decide ((nc : Int) < (nc : Int)) = false := by simp
   have d1' : decide (nc < nc) = false := by simp
   have HL0 := Lib.hid hl; have HB0 := Lib.hid hb
   clear hlt hl hb
   go_wp2_with fail
   go_loopw [5] (fun j wr => ∃ k : Nat, k ≤ nc ∧ j = .int .i64 k ∧ Loc wr [(gb, [.slice A no co, .slice B nc cc])] ∧ Below w.heap.size w wr) (fun j _ => nc - (intOf j).toNat)
   case atStart => exact ⟨0, Nat.zero_le _, rfl, HL0.out, HB0.out⟩
   case round =>
    obtain ⟨k, hk, rfl, hl, hb⟩ := hrel
    clear hF
    have hF := hl
    (repeat unfold Loc at hF)
    by_cases hlt : k < nc
    ·obtain ⟨d, hd⟩ : ∃ d, C[k]? = some d := ⟨_, List.getElem?_eq_getElem (by rw [HN.out]; omega)⟩
     obtain ⟨b1, o1, rfl, hb1, f0, f1, f2, f3, f4⟩ := ch_cells (rd_grown hr hb) hd
     have hch := HG.out.chn k (by rw [HN.out]; exact hlt)
     unfold chanB at hch
     rw [ch_getD hd] at hch
     simp only [Bool.and_eq_true, decide_eq_true_eq] at hch
     obtain ⟨⟨⟨⟨a1, a2⟩, a3⟩, a4⟩, a5⟩ := hch
     have HAP := Lib.hid (fun W (hb : Below w.heap.size w W) => rapart_any A (some ⟨b1, o1, none⟩) co cc no nc O C k W HN.out (by omega) hlt a1 (HH.out.grow hb))
     obtain ⟨df, do_, dt, di, dr⟩ := d
     simp only at f0 f1 f2 f3 f4 a2 a3 a4 a5
     have HOU := Lib.hid (fun W (hb : Below w.heap.size w W) => routputs_any A (some ⟨b1, o1, none⟩) co cc no nc O C df W HN.out (by omega) (HH.out.grow hb))
     have HIN := Lib.hid (fun W (hb : Below w.heap.size w W) => rinputs_any A (some ⟨b1, o1, none⟩) co cc no nc O C dt W HN.out (by omega) (HH.out.grow hb))
     obtain ⟨nu, hnu⟩ : ∃ n, outsG C df = n := ⟨_, rfl⟩
     obtain ⟨ni, hni⟩ : ∃ n, insG C dt = n := ⟨_, rfl⟩
     rw [hnu] at HOU a3
     rw [hni] at HIN a5
     have d2 : decide ((k : Int) < (nc : Int)) = true := by simp; omega
     have d2' : decide (k < nc) = true := by simp [hlt]
     have k1 : (0 : Int) ≤ (k : Int) := by omega
     have k2 : (k : Int) < (nc : Int) := by omega
     have ek : IntKind.i64.wrap ((k : Int) + 1) = (k : Int) + 1 := IntWalk.i64_in _ (by omega)
     have p1 : decide (do_ < 0) = false := by simp; omega
     have p2 : decide ((nu : Int) ≤ do_) = false := by simp; omega
     have p3 : decide (di < 0) = false := by simp; omega
     have p4 : decide ((ni : Int) ≤ di) = false := by simp; omega
     have hl6 := loc_swap (hl.new [.int .i64 df, .int .i64 do_, .int .i64 dt, .int .i64 di, .int .i64 dr] 139)
     have hb6 := below_new hb (.cells #[.int .i64 df, .int .i64 do_, .int .i64 dt, .int .i64 di, .int .i64 dr] 139)
     have HL := Lib.hid hlt; have HL6 := Lib.hid hl6
     have hz := hl.1
     clear hlt hd hl hnu hni a1 a2 a3 a4 a5
     go_upto_region 11 with (fail)
     obtain ⟨cb, hcb⟩ : ∃ cb, wr.heap.size = cb := ⟨_, rfl⟩
     (try simp only [hcb])
     rw [hcb] at HL6
     generalize hX6 : wr.alloc (.cells #[.int .i64 df, .int .i64 do_, .int .i64 dt, .int .i64 di, .int .i64 dr] 139) = X6 at HL6 hb6 ⊢
     clear hX6 hF hcb hz f0 f1 f2 f3 f4 hb1
     have hE0 : Env w [(gb, [.slice A no co, .slice (some ⟨b1, o1, none⟩) nc cc]), (cb, [.int .i64 df, .int .i64 do_, .int .i64 dt, .int .i64 di, .int .i64 dr])] X6 := ⟨hb6, HL6.out⟩
     go_wp2_with fail
     refine hB (Env w [(gb, [.slice A no co, .slice (some ⟨b1, o1, none⟩) nc cc]), (cb, [.int .i64 df, .int .i64 do_, .int .i64 dt, .int .i64 di, .int .i64 dr])]) (fun hHeld => ?_) (hS := Env.drew hE0)
     refine hW 0 ?_
     refine hT 1 ?_
     refine hC 2 fun K hK => ?_; go_simp
     go_at_call 66
     refine (HAP.out _ hHeld.1).mono ?_
     rintro r y2 ⟨rfl, hy2⟩
     (refine hKp hK (fun hHeld => ?_) (Env.step hy2 hHeld); clear hK K)
     refine hT 3 ?_; refine hT 4 ?_; refine hT 5 ?_
     refine hW 6 ?_
     refine hT 7 ?_; refine hT 8 ?_; refine hT 9 ?_; refine hT 10 ?_
     refine hW 11 ?_; refine hW 12 ?_
     refine hT 13 ?_
     refine hW 14 ?_
     refine hC 15 fun K hK => ?_; go_simp
     go_at_call 67
     refine (HOU.out _ hHeld.1).mono ?_
     rintro r y3 ⟨rfl, hy3⟩
     (refine hKp hK (fun hHeld => ?_) (Env.step hy3 hHeld); clear hK K)
     refine hT 16 ?_; refine hT 17 ?_; refine hT 18 ?_; refine hT 19 ?_
     refine hW 20 ?_
     refine hT 21 ?_; refine hT 22 ?_; refine hT 23 ?_; refine hT 24 ?_
     refine hW 25 ?_; refine hW 26 ?_
     refine hT 27 ?_
     refine hW 28 ?_
     refine hC 29 fun K hK => ?_; go_simp
     go_at_call 68
     refine (HIN.out _ hHeld.1).mono ?_
     rintro r y4 ⟨rfl, hy4⟩
     (refine hKp hK (fun hHeld => ?_) (Env.step hy4 hHeld); clear hK K)
     refine hT 30 ?_; refine hT 31 ?_
     refine hD ?_
     have hb8 := hHeld.1
     have hl8 := hHeld.2
     go_wp2_with fail
     go_roundw
     case rel => exact ⟨k + 1, HL.out, by go_num, ⟨hl8.1, hl8.2.1, hl8.2.2.1, trivial⟩, hb8⟩
     case measure => have := HL.out; simp [intOf]; omega
    ·obtain rfl : nc = k := by omega
     have d2 : decide ((nc : Int) < (nc : Int)) = false := by simp
     have d2' : decide (nc < nc) = false := by simp
     have HL1 := Lib.hid hl; have HB1 := Lib.hid hb
     clear hlt hl hb
     go_wp2_with fail
     go_loopw [7] (fun j wr => ∃ k : Nat, k ≤ no ∧ j = .int .i64 k ∧ Loc wr [(gb, [.slice A no co, .slice B nc cc])] ∧ Below w.heap.size w wr) (fun j _ => no - (intOf j).toNat)
     case atStart => exact ⟨0, Nat.zero_le _, rfl, HL1.out, HB1.out⟩
     case round =>
      obtain ⟨k, hk, rfl, hl, hb⟩ := hrel
      clear hF
      have hF := hl
      (repeat unfold Loc at hF)
      by_cases hlt : k < no
      ·obtain ⟨d, hd⟩ : ∃ d, O[k]? = some d := ⟨_, List.getElem?_eq_getElem (by rw [HO.out]; omega)⟩
       obtain ⟨b1, o1, rfl, hb1, f0, f1⟩ := op_cells (rd_grown hro hb) hd
       have hop := HG.out.ops k (by rw [HO.out]; exact hlt)
       unfold opB at hop
       rw [show O.getD k default = d by rw [List.getD_eq_getElem?_getD, hd]; rfl] at hop
       simp only [Bool.and_eq_true, decide_eq_true_eq, Bool.not_eq_true'] at hop
       obtain ⟨⟨⟨a1, a2⟩, a3⟩, a4⟩ := hop
       obtain ⟨kd, dn⟩ := d
       simp only at f0 f1 a1 a2 a3
       have HMA := Lib.hid (fun W => rmany_any kd _ _ a3 W)
       have HOU := Lib.hid (fun W (hb : Below w.heap.size w W) => routputs_any (some ⟨b1, o1, none⟩) B co cc no nc O C k W HN.out (by omega) (HH.out.grow hb))
       have HIN := Lib.hid (fun W (hb : Below w.heap.size w W) => rinputs_any (some ⟨b1, o1, none⟩) B co cc no nc O C k W HN.out (by omega) (HH.out.grow hb))
       have HRE := Lib.hid (fun W (hb : Below w.heap.size w W) => rreach_any (some ⟨b1, o1, none⟩) B co cc no nc O C k W HO.out HN.out (by omega) (by omega) hlt HENDS.out (HH.out.grow hb))
       obtain ⟨nu, hnu⟩ : ∃ n, outsG C k = n := ⟨_, rfl⟩
       obtain ⟨ni, hni⟩ : ∃ n, insG C k = n := ⟨_, rfl⟩
       have hrl : (reachB O C k).length = no := by unfold reachB; rw [rchN_len]; simp [HO.out]
       obtain ⟨R, hR⟩ : ∃ R, reachB O C k = R := ⟨_, rfl⟩
       rw [hR] at HRE hrl a4
       have hrk : R[k]? = some false := by
        rw [List.getD_eq_getElem?_getD, List.getElem?_eq_getElem (by omega)] at a4
        rw [List.getElem?_eq_getElem (by omega)]
        simpa using a4
       rw [hnu] at HOU HMA
       rw [hni] at HIN HMA
       have d2 : decide ((k : Int) < (no : Int)) = true := by simp; omega
       have d2' : decide (k < no) = true := by simp [hlt]
       have k1 : (0 : Int) ≤ (k : Int) := by omega
       have k2 : (k : Int) < (no : Int) := by omega
       have ek : IntKind.i64.wrap ((k : Int) + 1) = (k : Int) + 1 := IntWalk.i64_in _ (by omega)
       have p1 : decide (dn < 0) = false := by simp; omega
       have p2 : decide (3 < dn) = false := by simp; omega
       have hl6 := loc_swap (hl.new [.int .u8 kd, .int .i64 dn] 93)
       have hb6 := below_new hb (.cells #[.int .u8 kd, .int .i64 dn] 93)
       have HL := Lib.hid hlt; have HL6 := Lib.hid hl6; have HRL := Lib.hid hrl; have HRK := Lib.hid hrk
       have hz := hl.1
       clear hlt hd hl hnu hni hR a1 a2 a3 a4 hrl hrk
       go_upto_region 17 with (fail)
       obtain ⟨cb, hcb⟩ : ∃ cb, wr.heap.size = cb := ⟨_, rfl⟩
       (try simp only [hcb])
       rw [hcb] at HL6
       generalize hX6 : wr.alloc (.cells #[.int .u8 kd, .int .i64 dn] 93) = X6 at HL6 hb6 ⊢
       clear hX6 hF hcb hz f0 f1 hb1
       have hE0 : Env w [(gb, [.slice (some ⟨b1, o1, none⟩) no co, .slice B nc cc]), (cb, [.int .u8 kd, .int .i64 dn])] X6 := ⟨hb6, HL6.out⟩
       go_wp2_with fail
       refine hB (Env w [(gb, [.slice (some ⟨b1, o1, none⟩) no co, .slice B nc cc]), (cb, [.int .u8 kd, .int .i64 dn])]) (fun hHeld => ?_) (hS := Env.drew hE0)
       refine hT 0 ?_
       refine hW 1 ?_
       refine hT 2 ?_; refine hT 3 ?_; refine hT 4 ?_
       refine hW 5 ?_
       refine hT 6 ?_; refine hT 7 ?_; refine hT 8 ?_; refine hT 9 ?_
       refine hW 10 ?_; refine hW 11 ?_
       refine hT 12 ?_
       refine hW 14 ?_
       refine hT 15 ?_
       refine hC 13 fun K hK => ?_; go_simp
       go_at_call 68
       refine (HIN.out _ hHeld.1).mono ?_
       rintro r y2 ⟨rfl, hy2⟩
       (refine hKp hK (fun hHeld => ?_) (Env.step hy2 hHeld); clear hK K)
       refine hC 16 fun K hK => ?_; go_simp
       go_at_call 67
       refine (HOU.out _ hHeld.1).mono ?_
       rintro r y3 ⟨rfl, hy3⟩
       (refine hKp hK (fun hHeld => ?_) (Env.step hy3 hHeld); clear hK K)
       refine hC 17 fun K hK => ?_; go_simp
       go_at_call 69
       refine (HMA.out _).mono ?_
       rintro r y4 ⟨rfl, rfl⟩
       (refine hKp hK (fun hHeld => ?_) (hHeld); clear hK K)
       refine hT 18 ?_; refine hT 19 ?_; refine hT 20 ?_
       refine hW 21 ?_
       refine hT 22 ?_; refine hT 24 ?_
       refine hC 23 fun K hK => ?_; go_simp
       go_at_call 70
       refine (HRE.out _ hHeld.1).mono ?_
       rintro r y5 ⟨v5, rfl, own5, hy5⟩
       obtain ⟨A5, c5, rfl, -, -⟩ := own_shape_z own5 HRL.out
       obtain ⟨b5, o5, rfl, hb5, q5⟩ := bl_at (Own.rd bl_len own5) HRK.out
       (refine hKp hK (fun hHeld => ?_) (Env.step hy5 hHeld); clear hK K)
       refine hT 25 ?_
       refine hC 26 fun K hK => ?_; go_simp
       (refine hKp hK (fun hHeld => ?_) (hHeld); clear hK K)
       refine hT 27 ?_
       refine hD ?_
       have hb8 := hHeld.1
       have hl8 := hHeld.2
       go_wp2_with fail
       go_roundw
       case rel => exact ⟨k + 1, HL.out, by go_num, ⟨hl8.1, hl8.2.1, hl8.2.2.1, trivial⟩, hb8⟩
       case measure => have := HL.out; simp [intOf]; omega
      ·obtain rfl : no = k := by omega
       have d2 : decide ((no : Int) < (no : Int)) = false := by simp
       have d2' : decide (no < no) = false := by simp
       go_wp2_with fail
       go_ret
       exact ⟨rfl, by first | exact hb | (rw [← HGB.out]; exact hb)⟩
end Go.Proofs.YtnljihjhmgpcoaaGreat
