/- Lemmas and contracts for the statement, joined into one text: ConstOf, RefSizes, RefKinds. The conditions of each stand at its head. -/
import Derived.Test.YtnljihjhmgpcoaaGreatJ31
import Derived.Test.YtnljihjhmgpcoaaGreatJ11
import Derived.Test.YtnljihjhmgpcoaaGreatJ1
import Derived.Test.YtnljihjhmgpcoaaGreatJ33
namespace Go.Proofs.YtnljihjhmgpcoaaGreat
open Go.RowKit Go.ChangeShapes Go.WideShapes Go.ChangeAt Go.Deep
def bare (x : Nd) : Prop := fldN x = true → x.n = 0 ∧ x.a = 0 ∧ x.b = 0
theorem flat_bare {e : Ex} (h : e.ok) : ∀ o : Int, ∀ x ∈ e.flat o, bare x := by
 induction e with
 | lf k n p =>
  intro o x hx hf
  simp only [Ex.flat, List.mem_singleton] at hx
  subst hx
  simp only [fldN, decide_eq_true_eq] at hf
  exact ⟨h.1.2.2 (by omega), rfl, rfl⟩
 | un k p e ih =>
  intro o x hx hf
  simp only [Ex.flat, List.mem_append, List.mem_singleton] at hx
  rcases hx with hx | rfl
  ·exact ih h.2.2 o x hx hf
  ·have := h.1
   simp only [fldN, decide_eq_true_eq] at hf
   omega
 | bn k p e f ih1 ih2 =>
  intro o x hx hf
  simp only [Ex.flat, List.mem_append, List.mem_singleton] at hx
  rcases hx with hx | hx | rfl
  ·exact ih1 h.2.2.1 o x hx hf
  ·exact ih2 h.2.2.2 _ x hx hf
  ·have := h.1
   simp only [fldN, decide_eq_true_eq] at hf
   omega
set_option maxHeartbeats 4000000 in
theorem cfield_any (k n a b p : Int) (hx : bare ⟨k, n, a, b, p⟩) (w : World) : Calls Tryz.prog 154 #[.agg #[.int .u8 k, .int .i64 n, .int .i64 a, .int .i64 b, .int .i64 p]] w fun e w' => e = .returned (.bool (fldN ⟨k, n, a, b, p⟩)) ∧ Below w.heap.size w w' := by
 by_cases hk : 2 ≤ k ∧ k ≤ 4
 ·have hf : fldN ⟨k, n, a, b, p⟩ = true := by simpa [fldN] using hk
  obtain ⟨h1, h2, h3⟩ := hx hf
  simp only at h1 h2 h3
  subst h1; subst h2; subst h3
  rw [hf]
  clear hf hx
  rcases (by omega : k = 2 ∨ k = 3 ∨ k = 4) with rfl | rfl | rfl
  all_goals
   clear hk
   go_enter Tryz.func154, Tryz.ntmps154
   go_wp2
   go_ret
   exact ⟨rfl, (Below.refl _ _).alloc (Nat.le_refl _) _⟩
 ·have hf : fldN ⟨k, n, a, b, p⟩ = false := by simp [fldN]; omega
  rw [hf]
  have d2 : (k == 2) = false := by simp; omega
  have d3 : (k == 3) = false := by simp; omega
  have d4 : (k == 4) = false := by simp; omega
  clear hf hx hk
  go_enter Tryz.func154, Tryz.ntmps154
  go_wp2
  go_ret
  exact ⟨rfl, (Below.refl _ _).alloc (Nat.le_refl _) _⟩
theorem nd_cells5 {w : World} {B : Nat} {A : Option Addr} {l : List Nd} (h : Rd nenc 5 w B A l) {k : Nat} {x : Nd} (hx : l[k]? = some x) : ∃ b off, A = some ⟨b, off, none⟩ ∧ b < B ∧ w.cell? ⟨b, off + k * 5, none⟩ = some (.int .u8 x.k) ∧ w.cell? ⟨b, off + k * 5 + 1, none⟩ = some (.int .i64 x.n) ∧ w.cell? ⟨b, off + k * 5 + 2, none⟩ = some (.int .i64 x.a) ∧ w.cell? ⟨b, off + k * 5 + 3, none⟩ = some (.int .i64 x.b) ∧ w.cell? ⟨b, off + k * 5 + 4, none⟩ = some (.int .i64 x.p) := by
 obtain ⟨b, off, e, hb, hc⟩ := h.at_ hx
 exact ⟨b, off, e, hb, by simpa using hc 0 _ rfl, hc 1 _ rfl, hc 2 _ rfl, hc 3 _ rfl, hc 4 _ rfl⟩
def fixB (l : List Nd) (w : World) (e : Ending) (w' : World) : Prop := ∃ i : Int, e = .returned (.int .i64 i) ∧ (0 ≤ i ↔ l.any fldN = true) ∧ Below w.heap.size w w'
set_option maxHeartbeats 4000000 in
set_option maxRecDepth 100000 in
theorem cindex_any (A : Option Addr) (c n : Nat) (l : List Nd) (w : World) (hn : l.length = n) (h4 : n ≤ 60) (hl : ∀ x ∈ l, bare x) (hr : Rd nenc 5 w w.heap.size A l) :
  Calls Tryz.prog 175 #[.slice A n c, .func (.func 154) #[] #[]] w (fixB l w) := by
 have HN := Lib.hid hn; have HLL := Lib.hid hl
 clear hn hl
 go_enter Tryz.func175, Tryz.ntmps175
 go_wp2_with fail
 go_loopw [8] (fun i wr => ∃ k : Nat, k ≤ n ∧ i = .int .i64 k ∧ (l.take k).any fldN = false ∧ Below w.heap.size w wr) (fun i _ => n - (intOf i).toNat)
 case atStart => exact ⟨0, Nat.zero_le _, rfl, by simp, Below.refl _ _⟩
 case round =>
  obtain ⟨k, hk, rfl, hno, hb⟩ := hrel
  by_cases hlt : k < n
  ·obtain ⟨⟨xk, xn, xa, xb, xp⟩, hy⟩ : ∃ y, l[k]? = some y := ⟨_, List.getElem?_eq_getElem (by rw [HN.out]; exact hlt)⟩
   obtain ⟨b, off, rfl, hbb, f0, f1, f2, f3, f4⟩ := nd_cells5 (rd_grown hr hb) hy
   have hyr := HLL.out _ (List.mem_of_getElem? hy)
   have d1 : decide ((k : Int) < (n : Int)) = true := by simp; omega
   have d1' : decide (k < n) = true := by simp [hlt]
   have k1 : (0 : Int) ≤ (k : Int) := by omega
   have k2 : (k : Int) < (n : Int) := by omega
   have e1 : IntKind.i64.wrap ((k : Int) + 1) = (k : Int) + 1 := IntWalk.i64_in _ (by omega)
   have hout := fun W => cfield_any xk xn xa xb xp hyr W
   have htk : (l.take (k + 1)).any fldN = ((l.take k).any fldN || fldN ⟨xk, xn, xa, xb, xp⟩) := by
    rw [List.take_add_one, hy, Option.toList, List.any_append, List.any_cons, List.any_nil, Bool.or_false]
   have hany : fldN ⟨xk, xn, xa, xb, xp⟩ = true → l.any fldN = true := fun h => List.any_eq_true.2 ⟨_, List.mem_of_getElem? hy, h⟩
   obtain ⟨fl, hfl⟩ : ∃ x, fldN ⟨xk, xn, xa, xb, xp⟩ = x := ⟨_, rfl⟩
   rw [hfl] at hout htk hany
   rw [hno, Bool.false_or] at htk
   have HO := Lib.hid hout
   have HL := Lib.hid hlt; have HTK := Lib.hid htk; have HANY := Lib.hid hany
   clear hyr hy hlt hout htk hfl hno hany
   go_wp2_with fail
   go_at_call 154
   refine (HO.out _).mono ?_
   rintro r w2 ⟨rfl, hb2⟩
   have hb3 := below_then hb hb2
   clear f0 f1 f2 f3 f4
   cases fl
   ·go_wp2_with fail
    go_roundw
    case rel => exact ⟨k + 1, HL.out, by go_num, HTK.out, hb3⟩
    case measure => simp [intOf]; omega
   ·go_wp2_with fail
    go_ret
    exact ⟨_, rfl, ⟨fun _ => HANY.out (by trivial), fun _ => k1⟩, hb3⟩
  ·obtain rfl : k = n := by omega
   have d1 : decide ((k : Int) < (k : Int)) = false := by simp
   have d1' : decide (k < k) = false := by simp
   rw [List.take_of_length_le (by rw [HN.out]; exact Nat.le_refl _)] at hno
   have HNO := Lib.hid hno
   clear hno
   go_wp2_with fail
   go_ret
   exact ⟨_, rfl, ⟨fun h => by omega, fun h => by rw [HNO.out] at h; cases h⟩, hb⟩
set_option maxHeartbeats 4000000 in
theorem const_any (e : Ex) (he : e.good) (A : Option Addr) (c n : Nat) (w : World) (hn : e.size = n) (hr : Rd nenc 5 w w.heap.size A (e.flat 0)) : Calls Tryz.prog 131 #[.slice A n c] w fun r w' => r = .returned (.tuple #[.bool e.const, .int .i64 0]) ∧ Below w.heap.size w w' := by
 have hc := ncheck_any e he A c n w hn hr
 have h60 : n ≤ 60 := by have := he.2.1; omega
 have hi := fun W h => cindex_any A c n (e.flat 0) W (by rw [flat_len]; exact hn) h60 (flat_bare he.1 0) h
 have hcf := const_flat e he.1 0
 obtain ⟨b, hb⟩ : ∃ b, e.const = b := ⟨_, rfl⟩
 rw [hb] at hcf ⊢
 have HC := Lib.hid hc; have HI := Lib.hid hi; have HCF := Lib.hid hcf; have HR := Lib.hid hr
 clear hc hi hcf hb hr hn
 go_enter Tryz.func131, Tryz.ntmps131
 go_wp2_with fail
 go_at_call 84
 refine HC.out.mono ?_
 rintro r x2 ⟨rfl, hb2⟩
 have hr2 := HR.out.grow hb2
 go_wp2_with fail
 go_at_call 155
 have hcon : Calls Tryz.prog 155 #[.slice A n c, .func (.func 154) #[] #[]] x2 fun r w' => r = .returned (.bool (!b)) ∧ Below x2.heap.size x2 w' := by
  have HI2 := Lib.hid (HI.out x2 hr2)
  go_enter Tryz.func155, Tryz.ntmps155
  go_wp2_with fail
  go_at_call 175
  refine HI2.out.mono ?_
  rintro r x3 ⟨i, rfl, hi, hb3⟩
  have hcf := HCF.out
  have hbi : decide (0 ≤ i) = !b := by
   rw [hcf, Bool.not_not, Bool.eq_iff_iff, decide_eq_true_eq]; exact hi
  clear hi hcf
  go_wp2_with fail
  go_ret
  exact ⟨rfl, hb3⟩
 refine hcon.mono ?_
 rintro r x3 ⟨rfl, hb3⟩
 go_wp2_with fail
 go_ret2
 exact ⟨by simp, below_then hb2 hb3⟩
theorem rcount_any (k : Int) (w : World) : Calls Tryz.prog 139 #[.int .u8 k] w fun e w' => e = .returned (.int .i64 (prtN k)) ∧ w = w' := by
 by_cases h4 : k ≤ 4
 ·have e : prtN k = 0 := by unfold prtN; rw [if_pos h4]
  rw [e]
  clear e
  go_enter Tryz.func139, Tryz.ntmps139
  go_wp2
  go_ret
  exact ⟨rfl, rfl⟩
 ·by_cases h6 : k ≤ 6
  ·have e : prtN k = 1 := by unfold prtN; rw [if_neg h4, if_pos h6]
   rw [e]
   have d1 : decide (k ≤ 4) = false := by simp; omega
   clear e h4
   go_enter Tryz.func139, Tryz.ntmps139
   go_wp2
   go_ret
   exact ⟨rfl, rfl⟩
  ·have e : prtN k = 2 := by unfold prtN; rw [if_neg h4, if_neg h6]
   rw [e]
   have d1 : decide (k ≤ 4) = false := by simp; omega
   have d2 : decide (k ≤ 6) = false := by simp; omega
   clear e h4 h6
   go_enter Tryz.func139, Tryz.ntmps139
   go_wp2
   go_ret
   exact ⟨rfl, rfl⟩
set_option maxHeartbeats 4000000 in
theorem rright_any (k n a b p x y : Int) (w : World) : Calls Tryz.prog 140 #[.agg #[.int .u8 k, .int .i64 n, .int .i64 a, .int .i64 b, .int .i64 p], .int .i64 x, .int .i64 y] w fun r w' => r = .returned (.bool (rightN ⟨k, n, a, b, p⟩ x y)) ∧ Below w.heap.size w w' := by
 go_enter Tryz.func140, Tryz.ntmps140
 go_wp2
 all_goals (go_ret; exact ⟨ret_bool (by unfold rightN; grind), bel⟩)
theorem deep_size (e : Ex) : e.deep ≤ e.size := by
 induction e with
 | lf => exact Nat.le_refl _
 | un k p e ih => simp only [Ex.deep, Ex.size]; omega
 | bn k p e f ih1 ih2 => simp only [Ex.deep, Ex.size]; omega
def szL (T : List Ex) : List Int := T.map fun e => (e.size : Int)
def dpL (T : List Ex) : List Int := T.map fun e => (e.deep : Int)
theorem szL_at {T : List Ex} {j : Nat} (h : j < T.length) : (szL T)[j]? = some ((trT T j).size : Int) := by simp [szL, trT, List.getD_eq_getElem?_getD, h]
theorem dpL_at {T : List Ex} {j : Nat} (h : j < T.length) : (dpL T)[j]? = some ((trT T j).deep : Int) := by simp [dpL, trT, List.getD_eq_getElem?_getD, h]
def SizesP (l : List Nd) (w : World) (r : Ending) (w' : World) : Prop := ∃ v1 v2 b, r = .returned (.tuple #[v1, v2, .bool b]) ∧ (match trF [] l with | none => b = false | some T => b = okT T l.length ∧ Own ienc 1 w' w.heap.size 3 v2 (dpL T) ∧ T.length = l.length) ∧ Below w.heap.size w w'
theorem sizesP_none {l : List Nd} {w w' : World} {v1 v2 : Value} (h : trF [] l = none) (hb : Below w.heap.size w w') : SizesP l w (.returned (.tuple #[v1, v2, .bool false])) w' := by
 unfold SizesP; rw [h]; exact ⟨_, _, _, rfl, rfl, hb⟩
set_option maxHeartbeats 16000000 in
set_option maxRecDepth 100000 in
theorem rsizes_any (l : List Nd) (h64 : ∀ x ∈ l, n64 x) (A : Option Addr) (c n : Nat) (w : World) (hln : l.length = n) (h60 : n ≤ 60) (hr : Rd nenc 5 w w.heap.size A l) :
  Calls Tryz.prog 117 #[.slice A n c] w (SizesP l w) := by
 have HLN := Lib.hid hln; have H64 := Lib.hid h64
 clear hln h64
 go_enter Tryz.func117, Tryz.ntmps117
 go_wp2_with fail
 go_loopw [5, 6, 7] (fun vs vd i wr => ∃ (k : Nat) (T : List Ex), k ≤ n ∧ i = .int .i64 k ∧ T.length = k ∧ TrOk (l.take k) (trT T) ∧ trF T (l.drop k) = trF [] l ∧ Own ienc 1 wr w.heap.size 3 vs (szL T) ∧ Own ienc 1 wr w.heap.size 3 vd (dpL T) ∧ (vs.ownBlock = none ∨ vs.ownBlock ≠ vd.ownBlock) ∧ Below w.heap.size w wr) (fun _ _ i _ => n - (intOf i).toNat)
 case atStart => exact ⟨0, [], Nat.zero_le _, rfl, rfl, (by intro i x hx; simp at hx), by simp, Own.nil _ _ _, Own.nil _ _ _, .inl rfl, Below.refl _ _⟩
 case round =>
  obtain ⟨k, T, hk, rfl, hT, htr, htf, ows, owd, hap, hb⟩ := hrel
  by_cases hlt : k < n
  ·obtain ⟨x, hx⟩ : ∃ x, l[k]? = some x := ⟨_, List.getElem?_eq_getElem (by rw [HLN.out]; exact hlt)⟩
   obtain ⟨b, off, rfl, hbb, f0, f1, f2, f3, f4⟩ := nd_cells (rd_grown hr hb) hx
   have d1 : decide ((k : Int) < (n : Int)) = true := by simp; omega
   have d1' : decide (k < n) = true := by simp [hlt]
   have k1 : (0 : Int) ≤ (k : Int) := by omega
   have k2 : (k : Int) < (n : Int) := by omega
   have e1 : IntKind.i64.wrap ((k : Int) + 1) = (k : Int) + 1 := IntWalk.i64_in _ (by omega)
   have hsl : (szL T).length = k := by simp [szL, hT]
   have hdl : (dpL T).length = k := by simp [dpL, hT]
   have hx64 := H64.out x (List.mem_of_getElem? hx)
   have hcons := trF_cons (T := T) hx
   rw [htf] at hcons
   have hstep := fun T' (h : trStep T x = some T') => trok_step hx64 htr hT hx h
   have hsz := fun j (hj : j < k) => tr_seg htr (j + 1) j (by omega) (by rw [List.length_take, HLN.out]; omega)
   obtain ⟨As, cs, rfl, -, -⟩ := own_shape_z ows hsl
   obtain ⟨Ad, cd, rfl, -, -⟩ := own_shape_z owd hdl
   have hrs := Own.rd in_len ows
   have hrd := Own.rd in_len owd
   have HC := Lib.hid hcons; have HST := Lib.hid hstep; have HL := Lib.hid hlt; have HT := Lib.hid hT; have HAP := Lib.hid hap
   obtain ⟨xk, xn, xa, xb, xp⟩ := x
   simp only at f0 f1 f2 f3 f4
   have HCN := Lib.hid (fun W => rcount_any xk W)
   have HRR := Lib.hid (fun a b W => rright_any xk xn xa xb xp a b W)
   clear hcons hstep hlt hap hx hx64 htr htf
   by_cases h4 : xk ≤ 4
   ·have hp : prtN xk = 0 := by unfold prtN; rw [if_pos h4]
    have HCX := Lib.hid (fun W => hp ▸ HCN.out W)
    have h4k : decide (xk ≤ 4) = true := by simp [h4]
    have hts : trStep T ⟨xk, xn, xa, xb, xp⟩ = if rightN ⟨xk, xn, xa, xb, xp⟩ 0 0 = true then some (T ++ [.lf xk xn xp]) else none := by unfold trStep; rw [if_pos h4]
    have HTS := Lib.hid hts
    clear hp h4 hts hsz hrs hrd h4k
    go_wp2_with fail
    go_at_call 139
    refine (HCX.out _).mono ?_
    rintro r w2 ⟨rfl, rfl⟩
    go_wp2_with fail
    go_at_call 140
    refine (HRR.out 0 0 _).mono ?_
    rintro r w3 ⟨rfl, hb3⟩
    have hts := HTS.out
    obtain ⟨rb, hrb⟩ : ∃ rb, rightN ⟨xk, xn, xa, xb, xp⟩ 0 0 = rb := ⟨_, rfl⟩
    rw [hrb] at hts ⊢
    have HTT := Lib.hid hts
    have hb33 := below_then hb hb3
    have ows3 := ows.below hb3
    have owd3 := owd.below hb3
    clear hts hrb HTS ows owd hb hb3 f0 f1 f2 f3 f4 hbb
    cases rb
    ·go_wp2_with fail
     go_ret3
     exact sizesP_none (by rw [HC.out, HTT.out]; rfl) hb33
    ·go_wp2_with (first
      | (at_builtin; refine wpList_app in_el rfl (.tmp 78) (.tmp 80) rfl w.heap.size in_len in_one (szL T) [1] rfl (ows3.alloc _) rfl rfl (flat_new _ _ _ _ (by simp) _ rfl) (by rw [hsl]; omega) (by have := hb33.size; simp; omega) ?_; intro v7 w7 own7 hgr7 hb7 hl7; have owd7 := (owd3.alloc (.cells #[.int .i64 1] 3)).grown hgr7 (apart_symm HAP.out); have hap7 := apart_symm (apart_after (owd3.alloc (.cells #[.int .i64 1] 3)) (apart_symm HAP.out) hl7); have hb8 := (hb33.alloc hb33.size _).trans hb7; clear hgr7 hb7 hl7 hb33 ows3 owd3)
      | (at_builtin; refine wpList_app in_el rfl (.tmp 82) (.tmp 84) rfl w.heap.size in_len in_one (dpL T) [1] rfl (owd7.alloc _) rfl rfl (flat_new _ _ _ _ (by simp) _ rfl) (by rw [hdl]; omega) (by have := hb8.size; simp; omega) ?_; intro v9 w9 own9 hgr9 hb9 hl9))
     have htt := HTT.out
     rw [if_pos (by trivial)] at htt
     have ht9 := HST.out _ htt
     go_roundw
     have hq1 : szL (T ++ [.lf xk xn xp]) = szL T ++ [1] := by (have h : (Ex.size (.lf xk xn xp) : Int) = 1 := by (rfl)); simp only [szL, List.map_append, List.map_cons, List.map_nil, h]
     have hq2 : dpL (T ++ [.lf xk xn xp]) = dpL T ++ [1] := by (have h : (Ex.deep (.lf xk xn xp) : Int) = 1 := by (rfl)); simp only [dpL, List.map_append, List.map_cons, List.map_nil, h]
     case rel => exact ⟨_, T ++ [.lf xk xn xp], HL.out, by go_num, by simp [HT.out], ht9, by rw [HC.out, htt], by rw [hq1]; exact (own7.alloc _).grown hgr9 hap7, by rw [hq2]; exact own9, apart_after (own7.alloc _) hap7 hl9, (hb8.alloc hb8.size _).trans hb9⟩
     case measure => simp [intOf]; omega
   ·rcases Nat.eq_zero_or_pos k with hk0 | hk0
    ·subst hk0
     have hts : trStep T ⟨xk, xn, xa, xb, xp⟩ = none := by unfold trStep; rw [if_neg h4, if_pos hT]
     have HTS := Lib.hid hts
     have hp : prtN xk = 1 ∨ prtN xk = 2 := by unfold prtN; rw [if_neg h4]; split; exact .inl rfl; exact .inr rfl
     have ew : IntKind.i64.wrap (((0 : Nat) : Int) - 1) = -1 := by decide
     have ew' : IntKind.i64.wrap (-1) = -1 := by decide
     simp only [Nat.zero_mul, Nat.add_zero] at f0 f1 f2 f3 f4
     have d2 : decide ((0 : Int) < (n : Int)) = true := by simp; omega
     have k3 : (0 : Int) < (n : Int) := by omega
     have hcm : (if xk ≤ 4 then (0 : Nat) else if xk ≤ 6 then 1 else 2) = prtN xk := rfl
     clear hts hsz hrs hrd h4 hcm
     rcases hp with hp | hp
     ·have HCX := Lib.hid (fun W => hp ▸ HCN.out W)
      clear hp
      go_wp2_with fail
      go_at_call 139
      refine (HCX.out _).mono ?_
      rintro r w2 ⟨rfl, rfl⟩
      go_wp2_with fail
      go_ret3
      exact sizesP_none (by rw [HC.out, HTS.out]) hb
     ·have HCX := Lib.hid (fun W => hp ▸ HCN.out W)
      clear hp
      go_wp2_with fail
      go_at_call 139
      refine (HCX.out _).mono ?_
      rintro r w2 ⟨rfl, rfl⟩
      go_wp2_with fail
      go_ret3
      exact sizesP_none (by rw [HC.out, HTS.out]) hb
    ·obtain ⟨j, rfl⟩ : ∃ j, k = j + 1 := ⟨k - 1, by omega⟩
     obtain ⟨s1, s2, -⟩ := hsz j (by omega)
     have s3 := deep_size (trT T j)
     obtain ⟨S, hS⟩ : ∃ S, (trT T j).size = S := ⟨_, rfl⟩
     obtain ⟨D, hD⟩ : ∃ D, (trT T j).deep = D := ⟨_, rfl⟩
     have g1 := szL_at (T := T) (j := j) (by omega)
     have g2 := dpL_at (T := T) (j := j) (by omega)
     rw [hS] at s1 s3 g1
     rw [hD] at s3 g2
     obtain ⟨b1, o1, rfl, hb1, c1⟩ := in_at hrs g1
     obtain ⟨b2, o2, rfl, hb2, c2⟩ := in_at hrd g2
     have ew : IntKind.i64.wrap (((j + 1 : Nat) : Int) - 1) = (j : Int) := (IntWalk.i64_in _ (by omega)).trans (by omega)
     have ew2 : IntKind.i64.wrap (((j : Int) + 1) - 1) = (j : Int) := (IntWalk.i64_in _ (by omega)).trans (by omega)
     have j0 : decide ((j : Int) < 0) = false := by simp
     have j1 : (0 : Int) ≤ (j : Int) := by omega
     have j2 : (j : Int) < ((j + 1 : Nat) : Int) := by omega
     obtain ⟨fi, hfi⟩ : ∃ fi : Int, (j : Int) - (S : Int) = fi := ⟨_, rfl⟩
     have e3 : IntKind.i64.wrap ((j : Int) - (S : Int)) = fi := by rw [hfi]; exact IntWalk.i64_in _ (by omega)
     have e4 : IntKind.i64.wrap (1 + (S : Int)) = ((S + 1 : Nat) : Int) := (IntWalk.i64_in _ (by omega)).trans (by omega)
     have e5 : IntKind.i64.wrap (1 + (D : Int)) = ((D + 1 : Nat) : Int) := (IntWalk.i64_in _ (by omega)).trans (by omega)
     have hS1 := (trT T j).size_pos
     rw [hS] at hS1
     have HSS := Lib.hid hS; have HDD := Lib.hid hD; have HFI := Lib.hid hfi
     clear hS hD hfi
     by_cases h6 : xk ≤ 6
     ·have hp : prtN xk = 1 := by unfold prtN; rw [if_neg h4, if_pos h6]
      have HCX := Lib.hid (fun W => hp ▸ HCN.out W)
      have hts : trStep T ⟨xk, xn, xa, xb, xp⟩ = if rightN ⟨xk, xn, xa, xb, xp⟩ (j : Int) 0 = true then some (T ++ [.un xk xp (trT T j)]) else none := by
       unfold trStep; rw [if_neg h4, if_neg (by omega), if_pos h6, show T.length - 1 = j by omega]; rfl
      have HTS := Lib.hid hts
      clear hp h4 h6 hts hsz g1 g2
      go_wp2_with fail
      go_at_call 139
      refine (HCX.out _).mono ?_
      rintro r w2 ⟨rfl, rfl⟩
      go_wp2_with fail
      go_at_call 140
      refine (HRR.out (j : Int) 0 _).mono ?_
      rintro r w3 ⟨rfl, hb3⟩
      have hts := HTS.out
      obtain ⟨rb, hrb⟩ : ∃ rb, rightN ⟨xk, xn, xa, xb, xp⟩ (j : Int) 0 = rb := ⟨_, rfl⟩
      rw [hrb] at hts ⊢
      have HTT := Lib.hid hts
      have hb33 := below_then hb hb3
      have ows3 := ows.below hb3
      have owd3 := owd.below hb3
      clear hts hrb HTS ows owd hb hb3 f0 f1 f2 f3 f4 hbb
      cases rb
      ·go_wp2_with fail
       go_ret3
       exact sizesP_none (by rw [HC.out, HTT.out]; rfl) hb33
      ·go_wp2_with (first
        | (at_builtin; refine wpList_app in_el rfl (.tmp 78) (.tmp 80) rfl w.heap.size in_len in_one (szL T) [((S + 1 : Nat) : Int)] rfl (ows3.alloc _) rfl rfl (flat_new _ _ _ _ (by simp) _ rfl) (by rw [hsl]; omega) (by have := hb33.size; simp; omega) ?_; intro v7 w7 own7 hgr7 hb7 hl7; have owd7 := (owd3.alloc (.cells #[.int .i64 ((S + 1 : Nat) : Int)] 3)).grown hgr7 (apart_symm HAP.out); have hap7 := apart_symm (apart_after (owd3.alloc (.cells #[.int .i64 ((S + 1 : Nat) : Int)] 3)) (apart_symm HAP.out) hl7); have hb8 := (hb33.alloc hb33.size _).trans hb7; clear hgr7 hb7 hl7 hb33 ows3 owd3)
        | (at_builtin; refine wpList_app in_el rfl (.tmp 82) (.tmp 84) rfl w.heap.size in_len in_one (dpL T) [((D + 1 : Nat) : Int)] rfl (owd7.alloc _) rfl rfl (flat_new _ _ _ _ (by simp) _ rfl) (by rw [hdl]; omega) (by have := hb8.size; simp; omega) ?_; intro v9 w9 own9 hgr9 hb9 hl9))
       have htt := HTT.out
       rw [if_pos (by trivial)] at htt
       have ht9 := HST.out _ htt
       go_roundw
       have hq1 : szL (T ++ [.un xk xp (trT T j)]) = szL T ++ [((S + 1 : Nat) : Int)] := by (have h : (Ex.size (.un xk xp (trT T j)) : Int) = ((S + 1 : Nat) : Int) := by (simp only [Ex.size]; rw [HSS.out])); simp only [szL, List.map_append, List.map_cons, List.map_nil, h]
       have hq2 : dpL (T ++ [.un xk xp (trT T j)]) = dpL T ++ [((D + 1 : Nat) : Int)] := by (have h : (Ex.deep (.un xk xp (trT T j)) : Int) = ((D + 1 : Nat) : Int) := by (simp only [Ex.deep]; rw [HDD.out])); simp only [dpL, List.map_append, List.map_cons, List.map_nil, h]
       case rel => exact ⟨_, T ++ [.un xk xp (trT T j)], HL.out, by go_num, by simp [HT.out], ht9, by rw [HC.out, htt], by rw [hq1]; exact (own7.alloc _).grown hgr9 hap7, by rw [hq2]; exact own9, apart_after (own7.alloc _) hap7 hl9, (hb8.alloc hb8.size _).trans hb9⟩
       case measure => simp [intOf]; omega
     ·have hp : prtN xk = 2 := by unfold prtN; rw [if_neg h4, if_neg h6]
      have HCX := Lib.hid (fun W => hp ▸ HCN.out W)
      by_cases hSj : j + 1 ≤ S
      ·have hts : trStep T ⟨xk, xn, xa, xb, xp⟩ = none := by
        unfold trStep; rw [if_neg h4, if_neg (by omega), if_neg h6, show T.length - 1 = j by omega, if_pos (by have := HSS.out; unfold trT at this; rw [this]; omega)]
       have HTS := Lib.hid hts
       have dF : decide (fi < 0) = true := by have := HFI.out; simp; omega
       clear hp h4 h6 hts hsz g1 g2 hSj
       go_wp2_with fail
       go_at_call 139
       refine (HCX.out _).mono ?_
       rintro r w2 ⟨rfl, rfl⟩
       go_wp2_with fail
       go_ret3
       exact sizesP_none (by rw [HC.out, HTS.out]) hb
      ·obtain ⟨m, hm⟩ : ∃ m : Nat, j = m + S := ⟨j - S, by omega⟩
       have hfm : fi = (m : Int) := by have := HFI.out; omega
       subst hfm
       have HM := Lib.hid hm
       obtain ⟨t1, t2, -⟩ := hsz m (by omega)
       have t3 := deep_size (trT T m)
       obtain ⟨S2, hS2⟩ : ∃ S, (trT T m).size = S := ⟨_, rfl⟩
       obtain ⟨D2, hD2⟩ : ∃ D, (trT T m).deep = D := ⟨_, rfl⟩
       have g3 := szL_at (T := T) (j := m) (by omega)
       have g4 := dpL_at (T := T) (j := m) (by omega)
       rw [hS2] at t1 t3 g3
       rw [hD2] at t3 g4
       obtain ⟨b3, o3, e6, hb3, c3⟩ := in_at hrs g3
       obtain ⟨b4, o4, e7, hb4, c4⟩ := in_at hrd g4
       simp only [Option.some.injEq, Addr.mk.injEq, and_true] at e6 e7
       obtain ⟨rfl, rfl⟩ := e6
       obtain ⟨rfl, rfl⟩ := e7
       have dF : decide ((m : Int) < 0) = false := by simp
       have m1 : (0 : Int) ≤ (m : Int) := by omega
       have m2 : (m : Int) < ((j + 1 : Nat) : Int) := by omega
       have e6 : IntKind.i64.wrap (((S + 1 : Nat) : Int) + (S2 : Int)) = ((S2 + S + 1 : Nat) : Int) := (IntWalk.i64_in _ (by omega)).trans (by omega)
       have e6' : IntKind.i64.wrap (((S : Int) + 1) + (S2 : Int)) = ((S2 + S + 1 : Nat) : Int) := (IntWalk.i64_in _ (by omega)).trans (by omega)
       have e7 : IntKind.i64.wrap (1 + (D2 : Int)) = ((D2 + 1 : Nat) : Int) := (IntWalk.i64_in _ (by omega)).trans (by omega)
       have hts : trStep T ⟨xk, xn, xa, xb, xp⟩ = if rightN ⟨xk, xn, xa, xb, xp⟩ (m : Int) (j : Int) = true then some (T ++ [.bn xk xp (trT T m) (trT T j)]) else none := by
        have h1 := HSS.out
        unfold trT at h1
        unfold trStep; rw [if_neg h4, if_neg (by omega), if_neg h6, show T.length - 1 = j by omega, h1, if_neg (by omega), show j - S = m by omega]; rfl
       have HTS := Lib.hid hts; have HS2 := Lib.hid hS2; have HD2 := Lib.hid hD2
       clear hp h4 h6 hts hsz g1 g2 g3 g4 hSj hS2 hD2 hm
       by_cases hDc : D < D2
       ·have dM : decide ((D : Int) < (D2 : Int)) = true := by simp [hDc]
        have dM' : decide (D < D2) = true := by simp [hDc]
        have dM2 : decide (((D + 1 : Nat) : Int) < ((D2 + 1 : Nat) : Int)) = true := by simp; omega
        have HDC := Lib.hid hDc
        go_wp2_with fail
        go_at_call 139
        refine (HCX.out _).mono ?_
        rintro r w2 ⟨rfl, rfl⟩
        go_wp2_with fail
        go_at_call 140
        refine (HRR.out (m : Int) (j : Int) _).mono ?_
        rintro r w3 ⟨rfl, hb3⟩
        have hts := HTS.out
        obtain ⟨rb, hrb⟩ : ∃ rb, rightN ⟨xk, xn, xa, xb, xp⟩ (m : Int) (j : Int) = rb := ⟨_, rfl⟩
        rw [hrb] at hts ⊢
        have HTT := Lib.hid hts
        have hb33 := below_then hb hb3
        have ows3 := ows.below hb3
        have owd3 := owd.below hb3
        clear hts hrb HTS ows owd hb hb3 f0 f1 f2 f3 f4 hbb
        cases rb
        ·go_wp2_with fail
         go_ret3
         exact sizesP_none (by rw [HC.out, HTT.out]; rfl) hb33
        ·go_wp2_with (first
          | (at_builtin; refine wpList_app in_el rfl (.tmp 78) (.tmp 80) rfl w.heap.size in_len in_one (szL T) [((S2 + S + 1 : Nat) : Int)] rfl (ows3.alloc _) rfl rfl (flat_new _ _ _ _ (by simp) _ rfl) (by rw [hsl]; omega) (by have := hb33.size; simp; omega) ?_; intro v7 w7 own7 hgr7 hb7 hl7; have owd7 := (owd3.alloc (.cells #[.int .i64 ((S2 + S + 1 : Nat) : Int)] 3)).grown hgr7 (apart_symm HAP.out); have hap7 := apart_symm (apart_after (owd3.alloc (.cells #[.int .i64 ((S2 + S + 1 : Nat) : Int)] 3)) (apart_symm HAP.out) hl7); have hb8 := (hb33.alloc hb33.size _).trans hb7; clear hgr7 hb7 hl7 hb33 ows3 owd3)
          | (at_builtin; refine wpList_app in_el rfl (.tmp 82) (.tmp 84) rfl w.heap.size in_len in_one (dpL T) [((D2 + 1 : Nat) : Int)] rfl (owd7.alloc _) rfl rfl (flat_new _ _ _ _ (by simp) _ rfl) (by rw [hdl]; omega) (by have := hb8.size; simp; omega) ?_; intro v9 w9 own9 hgr9 hb9 hl9))
         have htt := HTT.out
         rw [if_pos (by trivial)] at htt
         have ht9 := HST.out _ htt
         go_roundw
         have hq1 : szL (T ++ [.bn xk xp (trT T m) (trT T j)]) = szL T ++ [((S2 + S + 1 : Nat) : Int)] := by (have h : (Ex.size (.bn xk xp (trT T m) (trT T j)) : Int) = ((S2 + S + 1 : Nat) : Int) := by (simp only [Ex.size]; rw [HSS.out, HS2.out])); simp only [szL, List.map_append, List.map_cons, List.map_nil, h]
         have hq2 : dpL (T ++ [.bn xk xp (trT T m) (trT T j)]) = dpL T ++ [((D2 + 1 : Nat) : Int)] := by (have h : (Ex.deep (.bn xk xp (trT T m) (trT T j)) : Int) = ((D2 + 1 : Nat) : Int) := by (simp only [Ex.deep]; rw [HDD.out, HD2.out]; have := HDC.out; omega)); simp only [dpL, List.map_append, List.map_cons, List.map_nil, h]
         case rel => exact ⟨_, T ++ [.bn xk xp (trT T m) (trT T j)], HL.out, by go_num, by simp [HT.out], ht9, by rw [HC.out, htt], by rw [hq1]; exact (own7.alloc _).grown hgr9 hap7, by rw [hq2]; exact own9, apart_after (own7.alloc _) hap7 hl9, (hb8.alloc hb8.size _).trans hb9⟩
         case measure => simp [intOf]; omega
       ·have dM : decide ((D : Int) < (D2 : Int)) = false := by simp; omega
        have dM' : decide (D < D2) = false := by simp; omega
        have dM2 : decide (((D + 1 : Nat) : Int) < ((D2 + 1 : Nat) : Int)) = false := by simp; omega
        have HDC := Lib.hid hDc
        go_wp2_with fail
        go_at_call 139
        refine (HCX.out _).mono ?_
        rintro r w2 ⟨rfl, rfl⟩
        go_wp2_with fail
        go_at_call 140
        refine (HRR.out (m : Int) (j : Int) _).mono ?_
        rintro r w3 ⟨rfl, hb3⟩
        have hts := HTS.out
        obtain ⟨rb, hrb⟩ : ∃ rb, rightN ⟨xk, xn, xa, xb, xp⟩ (m : Int) (j : Int) = rb := ⟨_, rfl⟩
        rw [hrb] at hts ⊢
        have HTT := Lib.hid hts
        have hb33 := below_then hb hb3
        have ows3 := ows.below hb3
        have owd3 := owd.below hb3
        clear hts hrb HTS ows owd hb hb3 f0 f1 f2 f3 f4 hbb
        cases rb
        ·go_wp2_with fail
         go_ret3
         exact sizesP_none (by rw [HC.out, HTT.out]; rfl) hb33
        ·go_wp2_with (first
          | (at_builtin; refine wpList_app in_el rfl (.tmp 78) (.tmp 80) rfl w.heap.size in_len in_one (szL T) [((S2 + S + 1 : Nat) : Int)] rfl (ows3.alloc _) rfl rfl (flat_new _ _ _ _ (by simp) _ rfl) (by rw [hsl]; omega) (by have := hb33.size; simp; omega) ?_; intro v7 w7 own7 hgr7 hb7 hl7; have owd7 := (owd3.alloc (.cells #[.int .i64 ((S2 + S + 1 : Nat) : Int)] 3)).grown hgr7 (apart_symm HAP.out); have hap7 := apart_symm (apart_after (owd3.alloc (.cells #[.int .i64 ((S2 + S + 1 : Nat) : Int)] 3)) (apart_symm HAP.out) hl7); have hb8 := (hb33.alloc hb33.size _).trans hb7; clear hgr7 hb7 hl7 hb33 ows3 owd3)
          | (at_builtin; refine wpList_app in_el rfl (.tmp 82) (.tmp 84) rfl w.heap.size in_len in_one (dpL T) [((D + 1 : Nat) : Int)] rfl (owd7.alloc _) rfl rfl (flat_new _ _ _ _ (by simp) _ rfl) (by rw [hdl]; omega) (by have := hb8.size; simp; omega) ?_; intro v9 w9 own9 hgr9 hb9 hl9))
         have htt := HTT.out
         rw [if_pos (by trivial)] at htt
         have ht9 := HST.out _ htt
         go_roundw
         have hq1 : szL (T ++ [.bn xk xp (trT T m) (trT T j)]) = szL T ++ [((S2 + S + 1 : Nat) : Int)] := by (have h : (Ex.size (.bn xk xp (trT T m) (trT T j)) : Int) = ((S2 + S + 1 : Nat) : Int) := by (simp only [Ex.size]; rw [HSS.out, HS2.out])); simp only [szL, List.map_append, List.map_cons, List.map_nil, h]
         have hq2 : dpL (T ++ [.bn xk xp (trT T m) (trT T j)]) = dpL T ++ [((D + 1 : Nat) : Int)] := by (have h : (Ex.deep (.bn xk xp (trT T m) (trT T j)) : Int) = ((D + 1 : Nat) : Int) := by (simp only [Ex.deep]; rw [HDD.out, HD2.out]; have := HDC.out; omega)); simp only [dpL, List.map_append, List.map_cons, List.map_nil, h]
         case rel => exact ⟨_, T ++ [.bn xk xp (trT T m) (trT T j)], HL.out, by go_num, by simp [HT.out], ht9, by rw [HC.out, htt], by rw [hq1]; exact (own7.alloc _).grown hgr9 hap7, by rw [hq2]; exact own9, apart_after (own7.alloc _) hap7 hl9, (hb8.alloc hb8.size _).trans hb9⟩
         case measure => simp [intOf]; omega
  ·obtain rfl : k = n := by omega
   have d1 : decide ((k : Int) < (k : Int)) = false := by simp
   have d1' : decide (k < k) = false := by simp
   have hfin : trF [] l = some T := by
    rw [← htf, show l.drop k = [] from List.drop_of_length_le (by rw [HLN.out]; exact Nat.le_refl _)]; rfl
   have hsl : (szL T).length = k := by simp [szL, hT]
   have hdl : (dpL T).length = k := by simp [dpL, hT]
   obtain ⟨As, cs, rfl, -, -⟩ := own_shape_z ows hsl
   obtain ⟨Ad, cd, rfl, -, -⟩ := own_shape_z owd hdl
   have hrs := Own.rd in_len ows
   have HF := Lib.hid hfin
   rcases Nat.eq_zero_or_pos k with hk0 | hk0
   ·subst hk0
    have hok : okT T 0 = false := rfl
    have HOK := Lib.hid hok; have HT := Lib.hid hT
    clear hfin hok hT htr htf hrs hsl hdl
    go_wp2_with fail
    go_quiet (fail)
    go_wp2_with fail
    go_ret3
    refine ⟨_, _, _, rfl, ?_, bel⟩
    rw [HF.out]
    exact ⟨by rw [HLN.out, HOK.out], owd, by rw [HT.out, HLN.out]⟩
   ·obtain ⟨j, rfl⟩ : ∃ j, k = j + 1 := ⟨k - 1, by omega⟩
    have g1 := szL_at (T := T) (j := j) (by omega)
    obtain ⟨S, hS⟩ : ∃ S, (trT T j).size = S := ⟨_, rfl⟩
    rw [hS] at g1
    obtain ⟨b1, o1, rfl, hb1, c1⟩ := in_at hrs g1
    have ew : IntKind.i64.wrap (((j + 1 : Nat) : Int) - 1) = (j : Int) := (IntWalk.i64_in _ (by omega)).trans (by omega)
    have ew2 : IntKind.i64.wrap (((j : Int) + 1) - 1) = (j : Int) := (IntWalk.i64_in _ (by omega)).trans (by omega)
    have j1 : (0 : Int) ≤ (j : Int) := by omega
    have j2 : (j : Int) < ((j + 1 : Nat) : Int) := by omega
    have p1 : decide ((0 : Int) < ((j + 1 : Nat) : Int)) = true := by first | (simp; done) | (simp; omega)
    have p1' : decide ((0 : Int) < (j : Int) + 1) = true := by first | (simp; done) | (simp; omega)
    obtain ⟨bb, hbb⟩ : ∃ bb, decide (S = j + 1) = bb := ⟨_, rfl⟩
    have p2 : ((S : Int) == ((j + 1 : Nat) : Int)) = bb := by rw [← hbb, Bool.eq_iff_iff]; simp; omega
    have p2' : ((S : Int) == (j : Int) + 1) = bb := by rw [← p2]; simp
    have hok : okT T (j + 1) = bb := by rw [← hbb]; unfold okT; rw [show j + 1 - 1 = j from rfl, hS]; simp
    have HOK := Lib.hid hok; have HT := Lib.hid hT
    clear hfin hok hT htr htf hrs hsl hdl hbb hS g1
    cases bb
    ·go_wp2_with fail
     go_quiet (fail)
     go_wp2_with fail
     go_ret3
     refine ⟨_, _, _, rfl, ?_, bel⟩
     rw [HF.out]
     exact ⟨by rw [HLN.out, HOK.out], owd, by rw [HT.out, HLN.out]⟩
    ·go_wp2_with fail
     go_quiet (fail)
     go_wp2_with fail
     go_ret3
     refine ⟨_, _, _, rfl, ?_, bel⟩
     rw [HF.out]
     exact ⟨by rw [HLN.out, HOK.out], owd, by rw [HT.out, HLN.out]⟩
def Chk4P (l : List Nd) (w : World) (r : Ending) (w' : World) : Prop := r = .returned (.int .i64 (chk04 l)) ∧ Below w.heap.size w w'
set_option maxHeartbeats 4000000 in
theorem rchk_any (l : List Nd) (h64 : ∀ x ∈ l, n64 x) (A : Option Addr) (c n : Nat) (w : World) (hln : l.length = n) (hr : Rd nenc 5 w w.heap.size A l) :
  Calls Tryz.prog 80 #[.slice A n c] w (Chk4P l w) := by
 unfold Chk4P
 by_cases h60 : 60 < n
 ·have hc : chk04 l = 4 := by unfold chk04; rw [if_pos (by omega)]
  rw [hc]
  have d1 : decide ((60 : Int) < (n : Int)) = true := by simp; omega
  have d1' : decide (60 < n) = true := by simp [h60]
  clear hc hr hln h64
  go_enter Tryz.func80, Tryz.ntmps80
  go_wp2_with fail
  go_ret
  exact ⟨rfl, Below.refl _ _⟩
 ·have hs := rsizes_any l h64 A c n w hln (by omega) hr
  have hc : chk04 l = match trF [] l with
   | none => 8
   | some T => if okT T l.length = false then 8 else if 20 < (trT T (l.length - 1)).deep then 34 else 0 := by unfold chk04; rw [if_neg (by omega)]; rfl
  have d1 : decide ((60 : Int) < (n : Int)) = false := by simp; omega
  have d1' : decide (60 < n) = false := by simp; omega
  rw [hln] at hc
  have HSZ := Lib.hid hs; have HLN := Lib.hid hln; have H60 := Lib.hid h60
  obtain ⟨C, hC⟩ : ∃ C, chk04 l = C := ⟨_, rfl⟩
  rw [hC] at hc ⊢
  have HC := Lib.hid hc
  clear hc hs hC hr h64 hln h60
  go_enter Tryz.func80, Tryz.ntmps80
  go_wp2_with fail
  go_at_call 117
  refine HSZ.out.mono ?_
  rintro r x2 ⟨v1, v2, bb, rfl, hm, hb⟩
  cases ht : trF [] l with
  | none =>
   rw [ht] at hm
   have hc := HC.out
   rw [ht] at hc
   simp only at hm hc
   subst hm
   have HCC := Lib.hid hc
   clear hc ht
   go_wp2_with fail
   go_ret
   exact ⟨ret_i64 HCC.out.symm, hb⟩
  | some T =>
   rw [ht] at hm
   have hc := HC.out
   rw [ht] at hc
   simp only at hm hc
   obtain ⟨hm, owd, hTl⟩ := hm
   rw [HLN.out] at hm hTl
   rw [← hm] at hc
   cases bb with
   | false =>
    rw [if_pos rfl] at hc
    have HCC := Lib.hid hc
    clear hc ht hm
    go_wp2_with fail
    go_ret
    exact ⟨ret_i64 HCC.out.symm, hb⟩
   | true =>
    rw [if_neg (by simp)] at hc
    have h0 : 0 < n := by
     have : okT T n = true := hm.symm
     unfold okT at this
     simp only [Bool.and_eq_true, decide_eq_true_eq] at this
     exact this.1
    obtain ⟨j, rfl⟩ : ∃ j, n = j + 1 := ⟨n - 1, by omega⟩
    obtain ⟨Ad, cd, rfl, -, -⟩ := own_shape_z owd (show (dpL T).length = j + 1 by simp [dpL, hTl])
    have g2 := dpL_at (T := T) (j := j) (by omega)
    rw [show j + 1 - 1 = j from rfl] at hc
    obtain ⟨D, hD⟩ : ∃ D, (trT T j).deep = D := ⟨_, rfl⟩
    rw [hD] at g2 hc
    obtain ⟨b2, o2, rfl, hb2, c2⟩ := in_at (Own.rd in_len owd) g2
    have h60 := H60.out
    have jb : j ≤ 60 := by omega
    have ew : IntKind.i64.wrap (((j + 1 : Nat) : Int) - 1) = (j : Int) := (IntWalk.i64_in _ (by omega)).trans (by omega)
    have ew2 : IntKind.i64.wrap (((j : Int) + 1) - 1) = (j : Int) := (IntWalk.i64_in _ (by omega)).trans (by omega)
    have j1 : (0 : Int) ≤ (j : Int) := by omega
    have j2 : (j : Int) < ((j + 1 : Nat) : Int) := by omega
    by_cases h20 : 20 < D
    ·have dd : decide ((20 : Int) < (D : Int)) = true := by simp; omega
     have dd' : decide (20 < D) = true := by simp [h20]
     rw [if_pos h20] at hc
     have HCC := Lib.hid hc
     clear hc ht hm h20 owd g2 hD h60 hTl
     go_wp2_with fail
     go_ret
     exact ⟨ret_i64 HCC.out.symm, hb⟩
    ·have dd : decide ((20 : Int) < (D : Int)) = false := by simp; omega
     have dd' : decide (20 < D) = false := by simp; omega
     rw [if_neg h20] at hc
     have HCC := Lib.hid hc
     clear hc ht hm h20 owd g2 hD h60 hTl
     go_wp2_with fail
     go_ret
     exact ⟨ret_i64 HCC.out.symm, hb⟩
theorem rgives_any (k : Int) (w : World) : Calls Tryz.prog 142 #[.int .u8 k] w fun e w' => e = .returned (.bool (givK k)) ∧ w' = w := by
 by_cases h6 : k = 6
 ·subst h6
  go_enter Tryz.func142, Tryz.ntmps142
  go_wp2
  go_ret
  exact ⟨rfl, rfl⟩
 ·have d1 : (k == 6) = false := by simp [h6]
  have e : givK k = decide (12 ≤ k) := by unfold givK; simp [h6]
  rw [e]
  obtain ⟨b, hb⟩ : ∃ b, decide (12 ≤ k) = b := ⟨_, rfl⟩
  rw [hb]
  clear e h6
  go_enter Tryz.func142, Tryz.ntmps142
  go_wp2
  go_ret
  exact ⟨rfl, rfl⟩
def FitsP (b : Bool) (w : World) (r : Ending) (w' : World) : Prop := r = .returned (.bool b) ∧ Below w.heap.size w w'
set_option maxHeartbeats 16000000 in
set_option maxRecDepth 100000 in
theorem rfits_any (e : Ex) (he : e.good) (A : Option Addr) (c n i : Nat) (w : World) (hn : e.size = n) (hi : i < n) (hr : Rd nenc 5 w w.heap.size A (e.flat 0)) :
  Calls Tryz.prog 157 #[.slice A n c, .int .i64 i] w (FitsP (e.tr i).fits w) := by
 unfold FitsP
 have hl : (e.flat 0).length = n := by rw [flat_len]; exact hn
 have htr := trok_flat he.1
 obtain ⟨x, hx⟩ : ∃ x, (e.flat 0)[i]? = some x := ⟨_, List.getElem?_eq_getElem (by omega)⟩
 have hnode := htr i x hx
 obtain ⟨b, off, rfl, hbb, f0, f1, f2, f3, f4⟩ := nd_cells5 hr hx
 have key : ∀ j, j < n → w.cell? ⟨b, off + j * 5, none⟩ = some (.int .u8 (e.tr j).kind) := fun j hj => by
  obtain ⟨y, hy⟩ : ∃ y, (e.flat 0)[j]? = some y := ⟨_, List.getElem?_eq_getElem (by omega)⟩
  obtain ⟨b', off', e', _, g0, _⟩ := nd_cells5 hr hy
  simp only [Option.some.injEq, Addr.mk.injEq, and_true] at e'
  obtain ⟨rfl, rfl⟩ := e'
  rw [nodeAt_kind (htr j y hy)]; exact g0
 have h60 : n ≤ 60 := by have := he.2.1; omega
 have i1 : (0 : Int) ≤ (i : Int) := by omega
 have i2 : (i : Int) < (n : Int) := by omega
 have HG := Lib.hid (fun k W => rgives_any k W)
 clear hr hl htr hx he
 obtain ⟨xk, xn, xa, xb, xp⟩ := x
 simp only at f0 f1 f2 f3 f4
 rcases hnode with ⟨e1, hk', ha, hb, hp⟩ | ⟨j, hj, e1, hk', hn0, ha, hb, hp⟩ | ⟨j, m, hj, hm, e1, hk', hn0, ha, hb, hp⟩
 ·have ha' : xa = 0 := ha
  have hb' : xb = 0 := hb
  subst ha'; subst hb'
  have g0 := key 0 (by omega)
  simp only [Nat.zero_mul, Nat.add_zero] at g0
  have hf : (e.tr i).fits = true := by rw [e1]; rfl
  rw [hf]
  have d1 : decide (xk ≤ 4) = true := by have := hk'.1; simp only at this; simp; omega
  have z2 : (0 : Int) < (n : Int) := by omega
  obtain ⟨K0, hK0⟩ : ∃ K, (e.tr 0).kind = K := ⟨_, rfl⟩
  rw [hK0] at g0
  clear hf e1 hk' hp key hK0 hn
  go_enter Tryz.func157, Tryz.ntmps157
  go_wp2_with fail
  go_quiet ((go_at_call 142; exact Calls.quiet_of_same (HG.out _ _)))
  go_wp2_with fail
  go_ret
  exact ⟨rfl, bel⟩
 ·have ha' : xa = (j : Int) := ha
  have hb' : xb = 0 := hb
  subst ha'; subst hb'
  have g0 := key 0 (by omega)
  simp only [Nat.zero_mul, Nat.add_zero] at g0
  have g1 := key j (by omega)
  have hf : (e.tr i).fits = if xk = 5 then !(e.tr j).gives else (e.tr j).gives := by rw [e1]; rfl
  have hgj : (e.tr j).gives = givK (e.tr j).kind := rfl
  rw [hf, hgj]
  have z2 : (0 : Int) < (n : Int) := by omega
  have j1 : (0 : Int) ≤ (j : Int) := by omega
  have j2 : (j : Int) < (n : Int) := by omega
  obtain ⟨K0, hK0⟩ : ∃ K, (e.tr 0).kind = K := ⟨_, rfl⟩
  obtain ⟨K1, hK1⟩ : ∃ K, (e.tr j).kind = K := ⟨_, rfl⟩
  rw [hK0] at g0
  rw [hK1] at g1 ⊢
  have hk5 : xk = 5 ∨ xk = 6 := hk'
  clear hf e1 hk' hp key hK0 hK1 hgj hj hn
  rcases hk5 with rfl | rfl
  all_goals
   go_enter Tryz.func157, Tryz.ntmps157
   go_wp2_with fail
   go_quiet ((go_at_call 142; exact Calls.quiet_of_same (HG.out _ _)))
   go_wp2_with fail
   go_ret
   exact ⟨rfl, bel⟩
 ·have ha' : xa = (m : Int) := ha
  have hb' : xb = (j : Int) := hb
  subst ha'; subst hb'
  have g0 := key m (by omega)
  have g1 := key j (by omega)
  have hf : (e.tr i).fits = if xk = 16 ∨ xk = 17 then (givK (e.tr m).kind == givK (e.tr j).kind) else if 18 ≤ xk then (givK (e.tr m).kind && givK (e.tr j).kind) else (!givK (e.tr m).kind && !givK (e.tr j).kind) := by rw [e1]; rfl
  rw [hf]
  have m1 : (0 : Int) ≤ (m : Int) := by omega
  have m2 : (m : Int) < (n : Int) := by omega
  have j1 : (0 : Int) ≤ (j : Int) := by omega
  have j2 : (j : Int) < (n : Int) := by omega
  obtain ⟨K0, hK0⟩ : ∃ K, (e.tr m).kind = K := ⟨_, rfl⟩
  obtain ⟨K1, hK1⟩ : ∃ K, (e.tr j).kind = K := ⟨_, rfl⟩
  rw [hK0] at g0 ⊢
  rw [hK1] at g1 ⊢
  obtain ⟨B0, hB0⟩ : ∃ B, givK K0 = B := ⟨_, rfl⟩
  obtain ⟨B1, hB1⟩ : ∃ B, givK K1 = B := ⟨_, rfl⟩
  have HG0 := Lib.hid (fun W => hB0 ▸ HG.out K0 W)
  have HG1 := Lib.hid (fun W => hB1 ▸ HG.out K1 W)
  rw [hB0, hB1]
  have hk7 : 7 ≤ xk ∧ xk ≤ 19 := hk'
  have d4 : decide (xk ≤ 4) = false := by simp; omega
  have d5 : (xk == 5) = false := by simp; omega
  have d6 : (xk == 6) = false := by simp; omega
  clear hf e1 hk' hp key hK0 hK1 hB0 hB1 hm hj hn
  by_cases h16 : xk = 16 ∨ xk = 17
  ·rw [if_pos h16]
   clear hk7 d4 d5 d6
   rcases h16 with rfl | rfl <;> cases B0 <;> cases B1
   all_goals
    go_enter Tryz.func157, Tryz.ntmps157
    go_wp2_with fail
    go_quiet (first | (go_at_call 142; with_reducible exact Calls.quiet_of_same (HG0.out _)) | (go_at_call 142; with_reducible exact Calls.quiet_of_same (HG1.out _)))
    go_wp2_with fail
    go_ret
    exact ⟨rfl, bel⟩
  ·rw [if_neg h16]
   have d7 : (xk == 16) = false := by simp; omega
   have d8 : (xk == 17) = false := by simp; omega
   by_cases h18 : 18 ≤ xk
   ·rw [if_pos h18]
    have d9 : decide (18 ≤ xk) = true := by simp [h18]
    clear h16 h18 hk7
    cases B0 <;> cases B1
    all_goals
     go_enter Tryz.func157, Tryz.ntmps157
     go_wp2_with fail
     go_quiet (first | (go_at_call 142; with_reducible exact Calls.quiet_of_same (HG0.out _)) | (go_at_call 142; with_reducible exact Calls.quiet_of_same (HG1.out _)))
     go_wp2_with fail
     go_ret
     exact ⟨rfl, bel⟩
   ·rw [if_neg h18]
    have d9 : decide (18 ≤ xk) = false := by simp; omega
    clear h16 h18 hk7
    cases B0 <;> cases B1
    all_goals
     go_enter Tryz.func157, Tryz.ntmps157
     go_wp2_with fail
     go_quiet (first | (go_at_call 142; with_reducible exact Calls.quiet_of_same (HG0.out _)) | (go_at_call 142; with_reducible exact Calls.quiet_of_same (HG1.out _)))
     go_wp2_with fail
     go_ret
     exact ⟨rfl, bel⟩
def WrongP (e : Ex) (n : Nat) (w : World) (r : Ending) (w' : World) : Prop := ∃ i : Nat, r = .returned (.int .i64 i) ∧ i ≤ n ∧ (i = n → ∀ j, j < n → (e.tr j).fits = true) ∧ Below w.heap.size w w'
set_option maxHeartbeats 4000000 in
theorem rwrong_any (e : Ex) (he : e.good) (A : Option Addr) (c n : Nat) (w : World) (hn : e.size = n) (hr : Rd nenc 5 w w.heap.size A (e.flat 0)) :
  Calls Tryz.prog 141 #[.slice A n c] w (WrongP e n w) := by
 have h60 : n ≤ 60 := by have := he.2.1; omega
 have HF := Lib.hid (fun i hi W (hb : Below w.heap.size w W) => rfits_any e he A c n i W hn hi (hr.grow hb))
 clear hr he hn
 go_enter Tryz.func141, Tryz.ntmps141
 go_wp2_with fail
 go_loopw [3] (fun i wr => ∃ k : Nat, k ≤ n ∧ i = .int .i64 k ∧ (∀ j, j < k → (e.tr j).fits = true) ∧ Below w.heap.size w wr) (fun i _ => n - (intOf i).toNat)
 case atStart => exact ⟨0, Nat.zero_le _, rfl, fun j hj => absurd hj (Nat.not_lt_zero _), Below.refl _ _⟩
 case round =>
  obtain ⟨k, hk, rfl, hall, hb⟩ := hrel
  by_cases hlt : k < n
  ·have d1 : decide ((k : Int) < (n : Int)) = true := by simp; omega
   have d1' : decide (k < n) = true := by simp [hlt]
   have e1 : IntKind.i64.wrap ((k : Int) + 1) = (k : Int) + 1 := IntWalk.i64_in _ (by omega)
   have HFK := Lib.hid (HF.out k hlt wr hb)
   obtain ⟨b, hbb⟩ : ∃ b, (e.tr k).fits = b := ⟨_, rfl⟩
   have HB := Lib.hid hbb; have HL := Lib.hid hlt; have HA := Lib.hid hall
   clear hlt hbb hall
   go_wp2_with fail
   go_at_call 157
   refine HFK.out.mono ?_
   rintro r w2 ⟨rfl, hb2⟩
   rw [HB.out]
   have hb3 := below_then hb hb2
   cases b
   ·go_wp2_with fail
    go_ret
    exact ⟨k, rfl, hk, fun h => by have := HL.out; omega, hb3⟩
   ·go_wp2_with fail
    go_roundw
    case rel => exact ⟨k + 1, HL.out, by go_num, fun j hj => by rcases Nat.lt_or_ge j k with h | h; exact HA.out j h; rw [show j = k by omega]; exact HB.out, hb3⟩
    case measure => have := HL.out; simp [intOf]; omega
  ·obtain rfl : k = n := by omega
   have d1 : decide ((k : Int) < (k : Int)) = false := by simp
   have d1' : decide (k < k) = false := by simp
   have HA := Lib.hid hall
   clear hall
   go_wp2_with fail
   go_ret
   exact ⟨k, rfl, Nat.le_refl _, fun _ => HA.out, hb⟩
/-- A typed expression that gives truths or not, or an error. -/
def KOfP (l : List Nd) (n : Nat) (w : World) (r : Ending) (w' : World) : Prop := ∃ (g : Bool) (i : Nat) (e : Int), r = .returned (.tuple #[.bool g, .int .i64 i, .int .i64 e]) ∧ i < n ∧ (e = 0 → typed l g) ∧ Below w.heap.size w w'
set_option maxHeartbeats 4000000 in
theorem rkof_any (l : List Nd) (h64 : ∀ x ∈ l, n64 x) (A : Option Addr) (c n : Nat) (w : World) (hln : l.length = n) (h0 : 0 < n) (hr : Rd nenc 5 w w.heap.size A l) :
  Calls Tryz.prog 118 #[.slice A n c] w (KOfP l n w) := by
 have HCK := Lib.hid (fun W (hb : Below w.heap.size w W) => rchk_any l h64 A c n W hln (hr.grow hb))
 obtain ⟨E, hE⟩ : ∃ E, chk04 l = E := ⟨_, rfl⟩
 have HCK2 := Lib.hid (fun W (hb : Below w.heap.size w W) => show Calls Tryz.prog 80 #[.slice A n c] W (fun r w' => r = .returned (.int .i64 E) ∧ Below W.heap.size W w') by have := HCK.out W hb; unfold Chk4P at this; rwa [hE] at this)
 by_cases hz : E = 0
 ·subst hz
  obtain ⟨e, he, hfl, hsz⟩ := chk04_good h64 hE
  subst hfl
  have hn : e.size = n := by rw [hsz, hln]
  have HW := Lib.hid (fun W (hb : Below w.heap.size w W) => rwrong_any e he A c n W hn (hr.grow hb))
  have hwt := wt_of e
  rw [hn] at hwt
  obtain ⟨j, rfl⟩ : ∃ j, n = j + 1 := ⟨n - 1, by omega⟩
  have htr := trok_flat he.1
  obtain ⟨x, hx⟩ : ∃ x, (e.flat 0)[j]? = some x := ⟨_, List.getElem?_eq_getElem (by rw [hln]; omega)⟩
  have hkx : x.k = e.kind := by
   rw [← nodeAt_kind (htr j x hx)]
   have := tr_last e
   rw [hn, Nat.add_sub_cancel] at this
   rw [this]
  obtain ⟨b, off, rfl, hbb, f0, -⟩ := nd_cells5 hr hx
  rw [hkx] at f0
  have HG := Lib.hid (fun W => rgives_any e.kind W)
  have hgk : givK e.kind = e.gives := rfl
  obtain ⟨G, hG⟩ : ∃ G, e.gives = G := ⟨_, rfl⟩
  have HG2 := Lib.hid (fun W => show Calls Tryz.prog 142 #[.int .u8 e.kind] W (fun r w' => r = .returned (.bool G) ∧ w' = W) by have := HG.out W; rwa [hgk, hG] at this)
  obtain ⟨K, hK⟩ : ∃ K, e.kind = K := ⟨_, rfl⟩
  rw [hK] at f0 HG2
  have h60 : j + 1 ≤ 60 := by have := he.2.1; omega
  have ew : IntKind.i64.wrap (((j + 1 : Nat) : Int) - 1) = (j : Int) := (IntWalk.i64_in _ (by omega)).trans (by omega)
  have j1 : (0 : Int) ≤ (j : Int) := by omega
  have j2 : (j : Int) < ((j + 1 : Nat) : Int) := by omega
  have HWT := Lib.hid hwt; have HGD := Lib.hid he; have HGG := Lib.hid hG
  clear hr hln h64 hE hsz hn hwt htr hx hkx hgk HG hG hK he h0 HCK
  go_enter Tryz.func118, Tryz.ntmps118
  go_wp2_with fail
  go_at_call 80
  refine (HCK2.out _ (Below.refl _ _)).mono ?_
  rintro r x2 ⟨rfl, hb2⟩
  go_wp2_with fail
  go_at_call 141
  refine (HW.out _ hb2).mono ?_
  rintro r x3 ⟨i, rfl, hi, hall, hb3⟩
  have hb4 := below_then hb2 hb3
  have f0' := (hb4.cell (p := ⟨b, off + j * 5, none⟩) hbb).trans f0
  by_cases hlt : i < j + 1
  ·have d1 : decide ((i : Int) < ((j + 1 : Nat) : Int)) = true := by simp; omega
   have d1' : decide (i < j + 1) = true := by simp [hlt]
   have d1'' : decide ((i : Int) < (j : Int) + 1) = true := by simp; omega
   have HL := Lib.hid hlt
   clear hlt hall f0 f0'
   go_wp2_with fail
   go_ret3
   exact ⟨_, i, 42, rfl, HL.out, fun h => (by cases h), hb4⟩
  ·have d1 : decide ((i : Int) < ((j + 1 : Nat) : Int)) = false := by simp; omega
   have d1' : decide (i < j + 1) = false := by simp [hlt]
   have d1'' : decide ((i : Int) < (j : Int) + 1) = false := by simp; omega
   have HALL := Lib.hid (hall (by omega))
   clear hlt hall f0
   go_wp2_with fail
   go_at_call 142
   refine (HG2.out _).mono ?_
   rintro r x5 ⟨rfl, rfl⟩
   go_wp2_with fail
   go_ret3
   exact ⟨G, j, 0, rfl, Nat.lt_succ_self _, fun _ => ⟨e, HGD.out, rfl, HWT.out HALL.out, HGG.out⟩, hb4⟩
 ·have dz : (E != 0) = true := by simp [hz]
  have HZ := Lib.hid hz
  clear hr hln h64 hE HCK hz
  go_enter Tryz.func118, Tryz.ntmps118
  go_wp2_with fail
  go_at_call 80
  refine (HCK2.out _ (Below.refl _ _)).mono ?_
  rintro r x2 ⟨rfl, hb2⟩
  go_wp2_with fail
  go_at_call 80
  refine (HCK2.out _ hb2).mono ?_
  rintro r x3 ⟨rfl, hb3⟩
  go_wp2_with fail
  go_ret3
  exact ⟨_, 0, E, rfl, h0, fun h => absurd h HZ.out, below_then hb2 hb3⟩
def WantP (l : List Nd) (b : Bool) (n : Nat) (w : World) (r : Ending) (w' : World) : Prop := ∃ (i : Nat) (e : Int), r = .returned (.tuple #[.int .i64 i, .int .i64 e]) ∧ i < n ∧ (e = 0 → typed l b) ∧ Below w.heap.size w w'
set_option maxHeartbeats 4000000 in
theorem rwant_any (l : List Nd) (b : Bool) (h64 : ∀ x ∈ l, n64 x) (A : Option Addr) (c n : Nat) (w : World) (hln : l.length = n) (h0 : 0 < n) (hr : Rd nenc 5 w w.heap.size A l) :
  Calls Tryz.prog 82 #[.slice A n c, .bool b] w (WantP l b n w) := by
 have H := Lib.hid (rkof_any l h64 A c n w hln h0 hr)
 clear hln hr h64 h0
 go_enter Tryz.func82, Tryz.ntmps82
 go_wp2_with fail
 go_at_call 118
 refine H.out.mono ?_
 rintro r x2 ⟨g, i, e, rfl, hi, he, hb⟩
 have HE := Lib.hid he
 clear he
 by_cases hz : e = 0
 ·subst hz
  have ht := HE.out rfl
  cases g <;> cases b
  all_goals
   have HT := Lib.hid ht
   clear ht
   go_wp2_with fail
   go_ret2
   first
    | exact ⟨i, 0, rfl, hi, fun _ => HT.out, hb⟩
    | exact ⟨i, 42, rfl, hi, fun h => (by cases h), hb⟩
 ·have dz : (e == 0) = false := by simp [hz]
  have HZ := Lib.hid hz
  clear hz
  go_wp2_with fail
  go_ret2
  exact ⟨i, e, rfl, hi, fun h => absurd h HZ.out, hb⟩
end Go.Proofs.YtnljihjhmgpcoaaGreat
