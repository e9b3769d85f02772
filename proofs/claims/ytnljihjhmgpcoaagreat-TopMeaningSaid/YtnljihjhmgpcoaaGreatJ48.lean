/- Lemmas and contracts for the statement, joined into one text: RefAsk, OpenQuery. The conditions of each stand at its head. -/
import Derived.Test.YtnljihjhmgpcoaaGreatJ47
import Derived.Test.YtnljihjhmgpcoaaGreatJ41
import Derived.Test.YtnljihjhmgpcoaaGreatJ4
namespace Go.Proofs.YtnljihjhmgpcoaaGreat
open Go.RowKit Go.ChangeShapes Go.WideShapes Go.ChangeAt Go.Deep
def KRightP (arg wh : List Nd) (w : World) (r : Ending) (w' : World) : Prop := ∃ x e : Int, r = .returned (.tuple #[.int .i64 x, .int .i64 e]) ∧ (e = 0 → (0 < arg.length → typed arg false) ∧ (0 < wh.length → typed wh true)) ∧ Below w.heap.size w w'
set_option maxHeartbeats 16000000 in
theorem rright10_any (ag : Int) (arg : List Nd) (src : List Int) (jo : Bool) (wh : List Nd) (wk ws we : Int) (ky : Bool) (la : Int) (ha64 : ∀ x ∈ arg, n64 x) (hw64 : ∀ x ∈ wh, n64 x)
  (A B C : Option Addr) (na ca nb cb nc cc : Nat) (w : World) (h : QArgs w arg src wh A B C na nb nc) :
  Calls Tryz.prog 46 #[.agg #[.int .u8 ag, .slice A na ca, .slice B nb cb, .bool jo, .slice C nc cc, .int .u8 wk, .int .i64 ws, .int .i64 we, .bool ky, .int .u8 la]] w (KRightP arg wh w) := by
 obtain ⟨⟨la1, lr1⟩, ⟨lb1, lr2⟩, ⟨lc1, lr3⟩⟩ := h
 have HA := Lib.hid (fun W (hb : Below w.heap.size w W) (h0 : 0 < na) => rwant_any arg false ha64 A ca na W la1 h0 (lr1.grow hb))
 have HC := Lib.hid (fun W (hb : Below w.heap.size w W) (h0 : 0 < nc) => rwant_any wh true hw64 C cc nc W lc1 h0 (lr3.grow hb))
 have HRA := Lib.hid lr1; have HRC := Lib.hid lr3; have HLA := Lib.hid la1; have HLC := Lib.hid lc1
 have hl0 := (Loc.nil w).new [.int .u8 ag, .slice A na ca, .slice B nb cb, .bool jo, .slice C nc cc, .int .u8 wk, .int .i64 ws, .int .i64 we, .bool ky, .int .u8 la] 27
 have hb0 : Below w.heap.size w (w.alloc (.cells #[.int .u8 ag, .slice A na ca, .slice B nb cb, .bool jo, .slice C nc cc, .int .u8 wk, .int .i64 ws, .int .i64 we, .bool ky, .int .u8 la] 27)) := below_new (Below.refl _ _) _
 clear lb1 lr2 ha64 hw64 la1 lr1 lc1 lr3
 have hF := hl0
 (repeat unfold Loc at hF)
 have hgo : ∀ (i e : Nat), True := fun _ _ => trivial
 clear hgo
 by_cases c1 : 0 < na
 ·have d1 : decide (0 < na) = true := by simp [c1]
  have d1' : decide ((0 : Int) < (na : Int)) = true := by simp; omega
  have HAA := Lib.hid (HA.out _ hb0 c1)
  have HC1 := Lib.hid c1
  clear c1
  go_enter Tryz.func46, Tryz.ntmps46
  go_wp2_with fail
  go_at_call 82
  refine HAA.out.mono ?_
  rintro r x2 ⟨i, e, rfl, hi, het, hb2⟩
  have HET := Lib.hid het
  clear het
  replace hl0 := hl0.below hb2
  replace hb0 := below_then hb0 hb2
  clear hF HAA hb2
  have hF := hl0
  (repeat unfold Loc at hF)
  by_cases e0 : e = 0
  ·subst e0
   have HTA := Lib.hid (HET.out rfl)
   by_cases c2 : 0 < nc
   ·have d2 : decide (0 < nc) = true := by simp [c2]
    have d2' : decide ((0 : Int) < (nc : Int)) = true := by simp; omega
    have HCC := Lib.hid (HC.out _ hb0 c2)
    go_wp2_with fail
    go_at_call 82
    refine HCC.out.mono ?_
    rintro r x3 ⟨i3, e, rfl, hi3, het, hb3⟩
    have HET3 := Lib.hid het
    clear het
    replace hl0 := hl0.below hb3
    replace hb0 := below_then hb0 hb3
    clear hF hb3
    have hF := hl0
    (repeat unfold Loc at hF)
    by_cases e0 : e = 0
    ·subst e0
     have HTC := Lib.hid (HET3.out rfl)
     go_wp2_with fail
     go_ret2
     exact ⟨_, 0, rfl, fun _ => ⟨fun _ => HTA.out, fun _ => HTC.out⟩, hb0⟩
    ·have dz : (e != 0) = true := by simp [e0]
     obtain ⟨x, hx⟩ : ∃ x, wh[i3]? = some x := ⟨_, List.getElem?_eq_getElem (by rw [HLC.out]; exact hi3)⟩
     obtain ⟨b, off, rfl, hbb, -, -, -, -, f4⟩ := nd_cells5 (HRC.out.grow hb0) hx
     have i1 : (0 : Int) ≤ (i3 : Int) := by omega
     have i2 : (i3 : Int) < (nc : Int) := by omega
     have HZ := Lib.hid e0
     clear e0 hx
     go_wp2_with fail
     go_ret2
     exact ⟨_, e, rfl, fun h => absurd h HZ.out, hb0⟩
   ·have d2 : decide (0 < nc) = false := by simp; omega
    have d2' : decide ((0 : Int) < (nc : Int)) = false := by simp; omega
    have HN2 := Lib.hid c2
    go_wp2_with fail
    go_ret2
    exact ⟨_, 0, rfl, fun _ => ⟨fun _ => HTA.out, fun h => absurd (by rw [← HLC.out]; exact h) HN2.out⟩, hb0⟩
  ·have dz : (e != 0) = true := by simp [e0]
   obtain ⟨x, hx⟩ : ∃ x, arg[i]? = some x := ⟨_, List.getElem?_eq_getElem (by rw [HLA.out]; exact hi)⟩
   obtain ⟨b, off, rfl, hbb, -, -, -, -, f4⟩ := nd_cells5 (HRA.out.grow hb0) hx
   have i1 : (0 : Int) ≤ (i : Int) := by omega
   have i2 : (i : Int) < (na : Int) := by omega
   have HZ := Lib.hid e0
   clear e0 hx
   go_wp2_with fail
   go_ret2
   exact ⟨_, e, rfl, fun h => absurd h HZ.out, hb0⟩
 ·have d1 : decide (0 < na) = false := by simp; omega
  have d1' : decide ((0 : Int) < (na : Int)) = false := by simp; omega
  have HN1 := Lib.hid c1
  clear c1
  by_cases c2 : 0 < nc
  ·have d2 : decide (0 < nc) = true := by simp [c2]
   have d2' : decide ((0 : Int) < (nc : Int)) = true := by simp; omega
   have HCC := Lib.hid (HC.out _ hb0 c2)
   go_enter Tryz.func46, Tryz.ntmps46
   go_wp2_with fail
   go_at_call 82
   refine HCC.out.mono ?_
   rintro r x3 ⟨i3, e, rfl, hi3, het, hb3⟩
   have HET3 := Lib.hid het
   clear het
   replace hl0 := hl0.below hb3
   replace hb0 := below_then hb0 hb3
   clear hF hb3 HCC
   have hF := hl0
   (repeat unfold Loc at hF)
   by_cases e0 : e = 0
   ·subst e0
    have HTC := Lib.hid (HET3.out rfl)
    go_wp2_with fail
    go_ret2
    exact ⟨_, 0, rfl, fun _ => ⟨fun h => absurd (by rw [← HLA.out]; exact h) HN1.out, fun _ => HTC.out⟩, hb0⟩
   ·have dz : (e != 0) = true := by simp [e0]
    obtain ⟨x, hx⟩ : ∃ x, wh[i3]? = some x := ⟨_, List.getElem?_eq_getElem (by rw [HLC.out]; exact hi3)⟩
    obtain ⟨b, off, rfl, hbb, -, -, -, -, f4⟩ := nd_cells5 (HRC.out.grow hb0) hx
    have i1 : (0 : Int) ≤ (i3 : Int) := by omega
    have i2 : (i3 : Int) < (nc : Int) := by omega
    have HZ := Lib.hid e0
    clear e0 hx
    go_wp2_with fail
    go_ret2
    exact ⟨_, e, rfl, fun h => absurd h HZ.out, hb0⟩
  ·have d2 : decide (0 < nc) = false := by simp; omega
   have d2' : decide ((0 : Int) < (nc : Int)) = false := by simp; omega
   have HN2 := Lib.hid c2
   go_enter Tryz.func46, Tryz.ntmps46
   go_wp2_with fail
   go_ret2
   exact ⟨_, 0, rfl, fun _ => ⟨fun h => absurd (by rw [← HLA.out]; exact h) HN1.out, fun h => absurd (by rw [← HLC.out]; exact h) HN2.out⟩, hb0⟩
/-- What a query that is right says: it is that of a Qy. -/
def QyIs (ag : Int) (arg : List Nd) (src : List Int) (jo : Bool) (wh : List Nd) (wk ws we : Int) (ky : Bool) (la : Int) : Prop :=
 ∃ q : Qy, q.good ∧ q.ag = ag ∧ opl q.arg = arg ∧ q.src = src ∧ q.jo = jo ∧ opl q.wh = wh ∧ q.wk = wk ∧ q.ws = ws ∧ q.we = we ∧ q.ky = ky ∧ q.la = la
def Chk10P (Q : Prop) (w : World) (r : Ending) (w' : World) : Prop := ∃ x e : Int, r = .returned (.tuple #[.int .i64 x, .int .i64 e]) ∧ (e = 0 → Q) ∧ Below w.heap.size w w'
set_option maxHeartbeats 8000000 in
theorem rchk10_any (ag : Int) (arg : List Nd) (src : List Int) (jo : Bool) (wh : List Nd) (wk ws we : Int) (ky : Bool) (la : Int) (hwe : (Lit.int .i64 we).wf = true) (ha64 : ∀ x ∈ arg, n64 x) (hw64 : ∀ x ∈ wh, n64 x)
  (A B C : Option Addr) (na ca nb cb nc cc : Nat) (w : World) (h : QArgs w arg src wh A B C na nb nc) :
  Calls Tryz.prog 19 #[.agg #[.int .u8 ag, .slice A na ca, .slice B nb cb, .bool jo, .slice C nc cc, .int .u8 wk, .int .i64 ws, .int .i64 we, .bool ky, .int .u8 la]] w (Chk10P (QyIs ag arg src jo wh wk ws we ky la) w) := by
 obtain ⟨R, hR⟩ : ∃ R, chk08 ag arg src jo wh wk ws we la = R := ⟨_, rfl⟩
 have HK := Lib.hid (fun W (hb : Below w.heap.size w W) => by have := rchk08_any ag arg src jo wh wk ws we ky la hwe ha64 hw64 A B C na ca nb cb nc cc W (h.grow hb); rwa [hR] at this)
 have HR := Lib.hid (fun W (hb : Below w.heap.size w W) => rright10_any ag arg src jo wh wk ws we ky la ha64 hw64 A B C na ca nb cb nc cc W (h.grow hb))
 have HQ := Lib.hid (fun h1 => qy_of (ag := ag) (arg := arg) (src := src) (jo := jo) (wh := wh) (wk := wk) (ws := ws) (we := we) (la := la) ky ha64 hw64 h1)
 have hl0 := (Loc.nil w).new [.int .u8 ag, .slice A na ca, .slice B nb cb, .bool jo, .slice C nc cc, .int .u8 wk, .int .i64 ws, .int .i64 we, .bool ky, .int .u8 la] 27
 have hb0 : Below w.heap.size w (w.alloc (.cells #[.int .u8 ag, .slice A na ca, .slice B nb cb, .bool jo, .slice C nc cc, .int .u8 wk, .int .i64 ws, .int .i64 we, .bool ky, .int .u8 la] 27)) := below_new (Below.refl _ _) _
 have HRR := Lib.hid hR
 clear h ha64 hw64 hwe hR
 have hF := hl0
 (repeat unfold Loc at hF)
 by_cases hz : R = 0
 ·subst hz
  go_enter Tryz.func19, Tryz.ntmps19
  go_wp2_with fail
  go_at_call 45
  refine (HK.out _ hb0).mono ?_
  rintro r x2 ⟨rfl, hb2⟩
  replace hl0 := hl0.below hb2
  replace hb0 := below_then hb0 hb2
  clear hF hb2
  have hF := hl0
  (repeat unfold Loc at hF)
  go_wp2_with fail
  go_at_call 46
  refine (HR.out _ hb0).mono ?_
  rintro r x3 ⟨x, e, rfl, hk, hb3⟩
  have HKK := Lib.hid hk
  replace hb0 := below_then hb0 hb3
  clear hF hk
  go_wp2_with fail
  go_ret2
  exact ⟨x, e, rfl, fun h => HQ.out HRR.out (HKK.out h).1 (HKK.out h).2, hb0⟩
 ·have dz : (R != 0) = true := by simp [hz]
  have HZ := Lib.hid hz
  clear hz
  go_enter Tryz.func19, Tryz.ntmps19
  go_wp2_with fail
  go_at_call 45
  refine (HK.out _ hb0).mono ?_
  rintro r x2 ⟨rfl, hb2⟩
  replace hl0 := hl0.below hb2
  replace hb0 := below_then hb0 hb2
  clear hF hb2
  have hF := hl0
  (repeat unfold Loc at hF)
  go_wp2_with fail
  go_at_call 45
  refine (HK.out _ hb0).mono ?_
  rintro r x3 ⟨rfl, hb3⟩
  replace hb0 := below_then hb0 hb3
  clear hF
  go_wp2_with fail
  go_ret2
  exact ⟨0, R, rfl, fun h => absurd h HZ.out, hb0⟩
def AskP (Q : Prop) (w : World) (r : Ending) (w' : World) : Prop := ∃ e : Int, r = .returned (.int .i64 e) ∧ (e = 0 → Q) ∧ Below w.heap.size w w'
set_option maxHeartbeats 8000000 in
theorem rasked21_any (ag : Int) (arg : List Nd) (src : List Int) (jo : Bool) (wh : List Nd) (wk ws we : Int) (ky : Bool) (la : Int) (hwe : (Lit.int .i64 we).wf = true) (ha64 : ∀ x ∈ arg, n64 x) (hw64 : ∀ x ∈ wh, n64 x)
  (A B C I : Option Addr) (na ca nb cb nc cc n ci : Nat) (ls : List (List Evt)) (w : World) (hn : ls.length = n) (hmax : n ≤ 9223372036854775807) (h : QArgs w arg src wh A B C na nb nc) (hr : RdL etenc 5 w I ls) :
  Calls Tryz.prog 7 #[.agg #[.int .u8 ag, .slice A na ca, .slice B nb cb, .bool jo, .slice C nc cc, .int .u8 wk, .int .i64 ws, .int .i64 we, .bool ky, .int .u8 la], .slice I n ci] w
   (AskP (QyIs ag arg src jo wh wk ws we ky la ∧ n = nb ∧ ∀ l ∈ ls, l.length ≤ 60 ∧ ∀ x ∈ l, etok x = true) w) := by
 have HK := Lib.hid (fun W (hb : Below w.heap.size w W) => rchk10_any ag arg src jo wh wk ws we ky la hwe ha64 hw64 A B C na ca nb cb nc cc W (h.grow hb))
 have HW := Lib.hid (fun W (hb : Below w.heap.size w W) => rwrong21_any I ci n ls W hn hmax (hr.grow hb))
 have hl0 := (Loc.nil w).new [.int .u8 ag, .slice A na ca, .slice B nb cb, .bool jo, .slice C nc cc, .int .u8 wk, .int .i64 ws, .int .i64 we, .bool ky, .int .u8 la] 27
 have hb0 : Below w.heap.size w (w.alloc (.cells #[.int .u8 ag, .slice A na ca, .slice B nb cb, .bool jo, .slice C nc cc, .int .u8 wk, .int .i64 ws, .int .i64 we, .bool ky, .int .u8 la] 27)) := below_new (Below.refl _ _) _
 clear h ha64 hw64 hwe hn hmax hr
 have hF := hl0
 (repeat unfold Loc at hF)
 go_enter Tryz.func7, Tryz.ntmps7
 go_wp2_with fail
 go_at_call 19
 refine (HK.out _ hb0).mono ?_
 rintro r x2 ⟨x, e, rfl, hk, hb2⟩
 have HKK := Lib.hid hk
 replace hl0 := hl0.below hb2
 replace hb0 := below_then hb0 hb2
 clear hF hb2 hk
 have hF := hl0
 (repeat unfold Loc at hF)
 by_cases hz : e = 0
 ·subst hz
  have HQ := Lib.hid (HKK.out rfl)
  by_cases hnn : n = nb
  ·subst hnn
   have dn : ((n : Int) != (n : Int)) = false := by simp
   go_wp2_with fail
   go_at_call 20
   refine (HW.out _ hb0).mono ?_
   rintro r x3 ⟨e, rfl, hev, hb3⟩
   have HEV := Lib.hid hev
   replace hb0 := below_then hb0 hb3
   clear hF hev
   go_wp2_with fail
   go_ret
   exact ⟨e, rfl, fun h => (by first | exact ⟨HQ.out, rfl, HEV.out h⟩ | exact ⟨HQ.out, HEV.out h⟩), hb0⟩
  ·have dn : ((n : Int) != (nb : Int)) = true := by simp; omega
   have dn' : (n != nb) = true := by simp [hnn]
   clear hnn
   go_wp2_with fail
   go_ret
   exact ⟨2, rfl, fun h => (by cases h), hb0⟩
 ·have dz : (e != 0) = true := by simp [hz]
  have HZ := Lib.hid hz
  clear hz
  go_wp2_with fail
  go_ret
  exact ⟨e, rfl, fun h => absurd h HZ.out, hb0⟩
theorem rgreat4_any (A : Option Addr) (n c : Nat) (w : World) : Calls Tryz.prog 18 #[.slice A n c] w fun r w' => r = .returned (.bool (decide (70 < n))) ∧ w' = w := by
 obtain ⟨B, hB⟩ : ∃ B, decide ((70 : Int) < (n : Int)) = B := ⟨_, rfl⟩
 have hB2 : decide (70 < n) = B := by rw [← hB]; exact decide_eq_decide.2 (by omega)
 rw [hB2]
 go_enter Tryz.func18, Tryz.ntmps18
 go_wp2_with fail
 go_ret
 exact ⟨rfl, rfl⟩
set_option maxHeartbeats 4000000 in
theorem rgreat8_any (ag : Int) (jo : Bool) (wk ws we : Int) (ky : Bool) (la : Int) (A B C : Option Addr) (na ca nb cb nc cc : Nat) (w : World) :
  Calls Tryz.prog 5 #[.agg #[.int .u8 ag, .slice A na ca, .slice B nb cb, .bool jo, .slice C nc cc, .int .u8 wk, .int .i64 ws, .int .i64 we, .bool ky, .int .u8 la]] w fun r w' => (∃ b : Bool, r = .returned (.bool b)) ∧ Below w.heap.size w w' := by
 have hb0 : Below w.heap.size w (w.alloc (.cells #[.int .u8 ag, .slice A na ca, .slice B nb cb, .bool jo, .slice C nc cc, .int .u8 wk, .int .i64 ws, .int .i64 we, .bool ky, .int .u8 la] 27)) := below_new (Below.refl _ _) _
 have HB := Lib.hid hb0
 clear hb0
 obtain ⟨b1, h1⟩ : ∃ b, decide (70 < na) = b := ⟨_, rfl⟩
 obtain ⟨b2, h2⟩ : ∃ b, decide (70 < nc) = b := ⟨_, rfl⟩
 obtain ⟨b3, h3⟩ : ∃ b, decide ((10 : Int) < (nb : Int)) = b := ⟨_, rfl⟩
 have h3' : decide (10 < nb) = b3 := by rw [← h3]; exact decide_eq_decide.2 (by omega)
 have H1 := Lib.hid (fun W => by have := rgreat4_any A na ca W; rwa [h1] at this)
 have H2 := Lib.hid (fun W => by have := rgreat4_any C nc cc W; rwa [h2] at this)
 clear h1 h2
 cases b1 with
 | true =>
  go_enter Tryz.func5, Tryz.ntmps5
  go_wp2_with fail
  go_at_call 18
  refine (H1.out _).mono ?_
  rintro r x2 ⟨rfl, rfl⟩
  go_wp2_with fail
  go_ret
  exact ⟨⟨_, rfl⟩, HB.out⟩
 | false =>
  cases b2 with
  | true =>
   go_enter Tryz.func5, Tryz.ntmps5
   go_wp2_with fail
   go_at_call 18
   refine (H1.out _).mono ?_
   rintro r x2 ⟨rfl, rfl⟩
   go_wp2_with fail
   go_at_call 18
   refine (H2.out _).mono ?_
   rintro r x2 ⟨rfl, rfl⟩
   go_wp2_with fail
   go_ret
   exact ⟨⟨_, rfl⟩, HB.out⟩
  | false =>
   go_enter Tryz.func5, Tryz.ntmps5
   go_wp2_with fail
   go_at_call 18
   refine (H1.out _).mono ?_
   rintro r x2 ⟨rfl, rfl⟩
   go_wp2_with fail
   go_at_call 18
   refine (H2.out _).mono ?_
   rintro r x2 ⟨rfl, rfl⟩
   go_wp2_with fail
   go_ret
   exact ⟨⟨_, rfl⟩, HB.out⟩
section
variable {H : Type} {enc : TypeId × Value → H} {P : Program} {w : World} {base : Nat} {spare : Nat → Bool} {held : Bool}
theorem struct_part {t : TypeId} {fs : Array Field} {f : Field} {fuel : Nat} {cs : List Value} {x : DataW H × List MemPlace} (i : Nat) (hu : P.underlying t = some (.struct fs)) (hf : fs[i]? = some f)
  (h : DataW.trod enc P w base spare held fuel t cs = some x) : ∃ m y, DataW.trod enc P w base spare held m f.type ((cs.drop f.offset).take (P.cellsOf f.type)) = some y := by
 obtain ⟨xs, m, _, _, _, hlen, hx⟩ := DataW.trod_struct hu h
 have h1 := hx i f hf
 have h2 : i < xs.length := by
  have := (Array.getElem?_eq_some_iff.1 hf).1
  omega
 rw [List.getElem?_eq_getElem h2] at h1
 exact ⟨m, _, h1⟩
/-- A slice whose elements have k cells each, and are read by 'dec': its one cell reads as a list. -/
theorem rows_by {α : Type} {t e : TypeId} {fuel k : Nat} {cs : List Value} {x : DataW H × List MemPlace} (enc' : α → List Value) (ok : α → Prop)
  (hu : P.underlying t = some (.slice e)) (hC : P.cellsOf e = k)
  (hdec : ∀ (n : Nat) (vs : List Value) (y : DataW H × List MemPlace), vs.length = k → DataW.trod enc P w base spare held n e vs = some y → ∃ x, vs = enc' x ∧ ok x) (hpos : 0 < k)
  (hf : DataW.trod enc P w base spare held fuel t cs = some x) :
  ∃ (A : Option Addr) (c : Nat) (l : List α), cs = [.slice A l.length c] ∧ l.length ≤ c ∧ c ≤ maxLen ∧ (∀ x ∈ l, ok x) ∧ Rd enc' k w w.heap.size A l ∧ (A = none → c = 0) := by
 rcases open_slice hu hf with ⟨hcs, _⟩ | ⟨a, len, cap, m, n', D, Pl, hcs, hb, hlc, hcm, hmm, _, hel⟩
 ·exact ⟨none, 0, [], hcs, Nat.le_refl _, by simp [maxLen], fun x hx => (by cases hx), Rd.nil, fun _ => rfl⟩
 ·have hlm : len ≤ m := by rw [hmm]; split <;> omega
  obtain ⟨l, hll, hP⟩ := list_of (fun (i : Nat) (x : α) => ok x ∧ w.cells? base (a.add (i * k)) k = some (enc' x)) (List.range len) (fun i hi => by
   have hi' := List.mem_range.1 hi
   obtain ⟨cs', hc, ht⟩ := hel i (by omega)
   rw [hC] at hc
   obtain ⟨_, hcl, _⟩ := World.cells?_some hc
   obtain ⟨x, hx, hok⟩ := hdec _ cs' _ hcl ht
   exact ⟨x, hok, by rw [hc, hx]⟩)
  simp only [List.length_range] at hll
  subst hll
  refine ⟨some a, cap, l, hcs, hlc, hcm, fun x hx => ?_, fun hn => ?_, fun h => nomatch h⟩
  ·obtain ⟨i, hi, rfl⟩ := List.getElem_of_mem hx
   exact (hP i i _ (by simp [hi]) (List.getElem?_eq_getElem hi)).1
  ·have hl0 : 0 < l.length := List.length_pos_iff.2 hn
   have h0 := (hP 0 0 l[0] (by simp [hl0]) (List.getElem?_eq_getElem hl0)).2
   obtain ⟨_, hcl0, hat0⟩ := World.cells?_some h0
   have hc0 := hat0 0 hpos
   rw [List.getElem?_eq_getElem (by omega)] at hc0
   have hz : a.add (0 * k) = a := by simp [Addr.add]
   rw [hz] at hc0
   obtain ⟨b, off, sp⟩ := a
   have hadd : (⟨b, off, sp⟩ : Addr).add 0 = ⟨b, off, sp⟩ := by simp [Addr.add]
   rw [hadd] at hc0
   have hsp : sp = none := by
    cases sp with
    | none => rfl
    | some s => simp [World.cell?] at hc0; split at hc0 <;> simp_all
   subst hsp
   have hbl : b < w.heap.size := by
    rcases Nat.lt_or_ge b w.heap.size with h1 | h1
    ·exact h1
    ·simp [World.cell?, Array.getElem?_eq_none h1] at hc0
   refine ⟨b, off, rfl, hbl, fun i x hx j u hu => ?_⟩
   obtain ⟨hk, _⟩ := List.getElem?_eq_some_iff.1 hx
   obtain ⟨_, hcl, hat⟩ := World.cells?_some (hP i i x (by simp [hk]) hx).2
   have hj : j < k := by
    have := (List.getElem?_eq_some_iff.1 hu).1
    omega
   have := hat j hj
   rw [hu] at this
   rw [← this]
   congr 1
   unfold Addr.add
   split <;> split <;> simp_all [Nat.add_assoc]
end
theorem nenc_dec24 (vs : List Value) (h : FitsL [some .u8, some .i64, some .i64, some .i64, some .i64] vs) : ∃ x, vs = nenc x ∧ n64 x := by
 obtain ⟨a0, v0, rfl, -, h⟩ := h
 obtain ⟨a1, v1, rfl, w1, h⟩ := h
 obtain ⟨a2, v2, rfl, -, h⟩ := h
 obtain ⟨a3, v3, rfl, -, h⟩ := h
 obtain ⟨a4, v4, rfl, -, h⟩ := h
 obtain rfl : v4 = [] := h
 exact ⟨⟨a0, a1, a2, a3, a4⟩, rfl, (in_wf w1).2⟩
theorem ienc_dec24 (vs : List Value) (h : FitsL [some .i64] vs) : ∃ x, vs = ienc x ∧ True := by
 obtain ⟨a0, v0, rfl, -, h⟩ := h
 obtain rfl : v0 = [] := h
 exact ⟨a0, rfl, trivial⟩
def ev64 (e : Evt) : Prop := in64 e.k ∧ in64 e.t ∧ in64 e.v
theorem etenc_dec24 (vs : List Value) (h : FitsL [none, some .i64, some .i64, some .i64, some .i64] vs) : ∃ x, vs = etenc x ∧ ev64 x := by
 obtain ⟨a0, v0, rfl, h⟩ := h
 obtain ⟨a1, v1, rfl, -, h⟩ := h
 obtain ⟨a2, v2, rfl, w2, h⟩ := h
 obtain ⟨a3, v3, rfl, w3, h⟩ := h
 obtain ⟨a4, v4, rfl, w4, h⟩ := h
 obtain rfl : v4 = [] := h
 exact ⟨⟨a0, a1, a2, a3, a4⟩, rfl, in_wf w2, in_wf w3, in_wf w4⟩
/-- A query as it comes in. -/
structure QX where
 ag : Int
 arg : List Nd
 src : List Int
 jo : Bool
 wh : List Nd
 wk : Int
 ws : Int
 we : Int
 ky : Bool
 la : Int
 A : Option Addr
 B : Option Addr
 C : Option Addr
 ca : Nat
 cb : Nat
 cc : Nat
def QX.val (x : QX) : Value := .agg #[.int .u8 x.ag, .slice x.A x.arg.length x.ca, .slice x.B x.src.length x.cb, .bool x.jo, .slice x.C x.wh.length x.cc, .int .u8 x.wk, .int .i64 x.ws, .int .i64 x.we, .bool x.ky, .int .u8 x.la]
/-- What is asked of the slices that come in. -/
def SlicesOk (A B C : Option Addr) (na ca nb cb nc cc : Nat) : Prop := ((A = none → ca = 0) ∧ na ≤ ca) ∧ ((B = none → cb = 0) ∧ nb ≤ cb) ∧ ((C = none → cc = 0) ∧ nc ≤ cc)
def QX.ok (x : QX) (w : World) : Prop := (Lit.int .i64 x.we).wf = true ∧ (∀ y ∈ x.arg, n64 y) ∧ (∀ y ∈ x.wh, n64 y) ∧ QArgs w x.arg x.src x.wh x.A x.B x.C x.arg.length x.src.length x.wh.length ∧ SlicesOk x.A x.B x.C x.arg.length x.ca x.src.length x.cb x.wh.length x.cc
structure LX where
 I : Option Addr
 ls : List (List Evt)
 ci : Nat
def LX.val (x : LX) : Value := .slice x.I x.ls.length x.ci
def LX.ok (x : LX) (w : World) : Prop := x.ls.length ≤ 9223372036854775807 ∧ RdL etenc 5 w x.I x.ls ∧ evs64 x.ls
section
variable {H : Type} {enc : TypeId × Value → H} {w : World} {base : Nat} {spare : Nat → Bool} {held : Bool}
set_option maxRecDepth 100000 in
theorem open_query {r : Reach} {b0 : Nat} {v : Value} {d : DataW H} {p : List MemPlace} (hv : Value.okWide Tryz.prog w r b0 27 v) (h : DataW.Trod enc Tryz.prog w base spare held 27 v d p) :
  ∃ x : QX, v = x.val ∧ x.ok w := by
 obtain ⟨cs, rfl, hsz⟩ := okWide_struct Tryz.underlying27 hv
 obtain ⟨fuel, hf⟩ := h
 have hl : cs.toList.length = 10 := by simpa using hsz.trans (by kernel_rfl : Tryz.prog.cellsOf 27 = 10)
 obtain ⟨l, hcs⟩ : ∃ l, cs.toList = l := ⟨_, rfl⟩
 have hf' : DataW.trod enc Tryz.prog w base spare held fuel 27 l = some (d, p) := by rw [← hcs]; exact hf
 rw [hcs] at hl
 match l, hl with
 | [v0, v1, v2, v3, v4, v5, v6, v7, v8, v9], _ =>
  obtain ⟨m0, y0, g0⟩ := struct_part 0 Tryz.underlying27 rfl hf'
  obtain ⟨m1, y1, g1⟩ := struct_part 1 Tryz.underlying27 rfl hf'
  obtain ⟨m2, y2, g2⟩ := struct_part 2 Tryz.underlying27 rfl hf'
  obtain ⟨m3, y3, g3⟩ := struct_part 3 Tryz.underlying27 rfl hf'
  obtain ⟨m4, y4, g4⟩ := struct_part 4 Tryz.underlying27 rfl hf'
  obtain ⟨m5, y5, g5⟩ := struct_part 5 Tryz.underlying27 rfl hf'
  obtain ⟨m6, y6, g6⟩ := struct_part 6 Tryz.underlying27 rfl hf'
  obtain ⟨m7, y7, g7⟩ := struct_part 7 Tryz.underlying27 rfl hf'
  have f0 : FitsL [some .u8] [v0] := fits_cells (n := 9) (by kernel_rfl) rfl (t := 5) g0
  have f3 : FitsL [none] [v3] := fits_cells (n := 9) (by kernel_rfl) rfl (t := 4) g3
  have f5 : FitsL [some .u8, some .i64, some .i64] [v5, v6, v7] := fits_cells (n := 9) (by kernel_rfl) rfl (t := 25) g5
  have f6 : FitsL [none] [v8] := fits_cells (n := 9) (by kernel_rfl) rfl (t := 4) g6
  have f7 : FitsL [some .u8] [v9] := fits_cells (n := 9) (by kernel_rfl) rfl (t := 5) g7
  obtain ⟨A, ca, la, e1, k1, -, n1, r1, z1⟩ := rows_by (k := 5) nenc n64 Tryz.underlying22 (by kernel_rfl) (fun n vs y hk hy => nenc_dec24 vs (fits_cells (n := 9) (by kernel_rfl) hk hy)) (by decide) (cs := [v1]) g1
  obtain ⟨B, cb, lb, e2, k2, -, n2, r2, z2⟩ := rows_by (k := 1) ienc (fun _ => True) Tryz.underlying23 (by kernel_rfl) (fun n vs y hk hy => ienc_dec24 vs (fits_cells (n := 9) (by kernel_rfl) hk hy)) (by decide) (cs := [v2]) g2
  obtain ⟨C, cc, lc, e4, k4, -, n4, r4, z4⟩ := rows_by (k := 5) nenc n64 Tryz.underlying22 (by kernel_rfl) (fun n vs y hk hy => nenc_dec24 vs (fits_cells (n := 9) (by kernel_rfl) hk hy)) (by decide) (cs := [v4]) g4
  obtain ⟨ag, vs, q0, -, -⟩ := f0
  obtain ⟨jo, vs3, q3, -⟩ := f3
  obtain ⟨wk, vs5, q5, -, f5⟩ := f5
  obtain ⟨ws, vs6, q6, -, f5⟩ := f5
  obtain ⟨we, vs7, q7, hwe, f5⟩ := f5
  obtain ⟨ky, vs8, q8, -⟩ := f6
  obtain ⟨la', vs9, q9, -, -⟩ := f7
  simp only [List.cons.injEq] at q0 q3 q5 q8 q9 e1 e2 e4
  obtain ⟨rfl, -⟩ := q0
  obtain ⟨rfl, -⟩ := q3
  obtain ⟨rfl, rfl⟩ := q5
  simp only [List.cons.injEq] at q6
  obtain ⟨rfl, rfl⟩ := q6
  simp only [List.cons.injEq] at q7
  obtain ⟨rfl, -⟩ := q7
  obtain ⟨rfl, -⟩ := q8
  obtain ⟨rfl, -⟩ := q9
  obtain ⟨rfl, -⟩ := e1
  obtain ⟨rfl, -⟩ := e2
  obtain ⟨rfl, -⟩ := e4
  refine ⟨⟨ag, la, lb, jo, lc, wk, ws, we, ky, la', A, B, C, ca, cb, cc⟩, ?_, hwe, n1, n4, ⟨⟨rfl, r1⟩, ⟨rfl, r2⟩, ⟨rfl, r4⟩⟩, ⟨z1, k1⟩, ⟨z2, k2⟩, z4, k4⟩
  rw [show cs = cs.toList.toArray by simp, hcs]
  rfl
set_option maxRecDepth 100000 in
theorem open_evs {r : Reach} {b0 : Nat} {v : Value} {d : DataW H} {p : List MemPlace} (hv : Value.okWide Tryz.prog w r b0 28 v) (h : DataW.Trod enc Tryz.prog w base spare held 28 v d p) :
  ∃ x : LX, v = x.val ∧ x.ok w := by
 obtain ⟨a0, len, cap, rfl⟩ := okWide_slice Tryz.underlying28 hv
 obtain ⟨fuel, hf⟩ := h
 obtain ⟨I, ci, l, e1, k1, hm, hok, hr, z⟩ := rows_by (k := 1) (α := Sl × List Evt) (fun x => slE x.1) (fun x => slOk etenc 5 w x.1 x.2 ∧ ∀ e ∈ x.2, ev64 e) Tryz.underlying28 (by kernel_rfl) (fun n vs y hk hy => by
  obtain ⟨A, c, m, e, k, -, h64, hrd, hz⟩ := rows_by (k := 5) etenc ev64 Tryz.underlying45 (by kernel_rfl) (fun n vs y hk hy => etenc_dec24 vs (fits_cells (n := 9) (by kernel_rfl) hk hy)) (by decide) hy
  exact ⟨(⟨A, m.length, c⟩, m), e, ⟨rfl, k, hz, hrd⟩, h64⟩) (by decide) hf
 simp only [Value.cells, List.cons.injEq, and_true] at e1
 refine ⟨⟨I, l.map Prod.snd, ci⟩, ?_, ?_, ⟨l.map Prod.fst, by simp, ?_, ?_⟩, ?_⟩
 ·unfold LX.val
  simp only [List.length_map]
  exact e1
 ·simp only [List.length_map]
  unfold maxLen at hm
  omega
 ·intro hne
  have hne' : l ≠ [] := by rintro rfl; exact hne rfl
  obtain ⟨b, off, e, hb, hc⟩ := hr hne'
  refine ⟨b, off, e, hb, fun k x hx j u hu => ?_⟩
  rw [List.getElem?_map] at hx
  obtain ⟨y, hy, rfl⟩ := Option.map_eq_some_iff.1 hx
  exact hc k y hy j u hu
 ·intro k d m hd hl
  rw [List.getElem?_map] at hd hl
  obtain ⟨y, hy, rfl⟩ := Option.map_eq_some_iff.1 hd
  rw [hy] at hl
  obtain rfl := Option.some.inj hl
  exact (hok y (List.mem_of_getElem? hy)).1
 ·intro m hm e he
  obtain ⟨y, hy, rfl⟩ := List.mem_map.1 hm
  exact (hok y hy).2 e he
end
end Go.Proofs.YtnljihjhmgpcoaaGreat
