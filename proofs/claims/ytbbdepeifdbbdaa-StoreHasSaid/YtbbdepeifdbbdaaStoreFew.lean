/- The contract of chapter 17's test of few records. No condition. -/
import Derived.Test.YtbbdepeifdbbdaaStoreLaw
namespace Go.Proofs.Ytbbdepeifdbbdaa
open Go.RowKit

instance (p : Pt) : Decidable (okP p) := by unfold okP; infer_instance
def okB (p : Pt) : Bool := decide (okP p)
theorem okB_iff (p : Pt) : okB p = true ↔ okP p := by unfold okB; exact decide_eq_true_iff
def fewB (wk ws we : Int) (l : List Pt) : Bool := l.all okB && (decide (l.length ≤ 40) && decide (wok wk ws we))
theorem few_bad {wk ws we : Int} {l : List Pt} {k : Nat} {p : Pt} (hp : l[k]? = some p) (h : okB p = false) : fewB wk ws we l = false := by
  unfold fewB
  have : l.all okB = false := by
    cases hq : l.all okB with
    | false => rfl
    | true => rw [List.all_eq_true] at hq; have := hq p (List.mem_of_getElem? hp); rw [h] at this; cases this
  rw [this]
  rfl
theorem few_many {wk ws we : Int} {l : List Pt} (h : 40 < l.length) : fewB wk ws we l = false := by
  unfold fewB
  have : decide (l.length ≤ 40) = false := by simp; omega
  rw [this]
  simp
theorem few_true {wk ws we : Int} {l : List Pt} (h : fewB wk ws we l = true) : (∀ p ∈ l, okP p) ∧ l.length ≤ 40 ∧ wok wk ws we := by
  unfold fewB at h
  simp only [Bool.and_eq_true, List.all_eq_true, decide_eq_true_eq] at h
  exact ⟨fun p hp => by have := h.1 p hp; simpa [okB] using this, h.2.1, h.2.2⟩
set_option maxHeartbeats 16000000 in
set_option maxRecDepth 100000 in
theorem few17_any (A : Option Addr) (c n : Nat) (l : List Pt) (wk ws we : Int) (hwe : (Lit.int .i64 we).wf = true) (w : World) (hln : l.length = n) (hr : Rd penc 4 w w.heap.size A l) :
    Calls Try.prog 46 #[.agg #[.int .u8 wk, .int .i64 ws, .int .i64 we], .slice A n c] w fun r w' => r = .returned (.bool (fewB wk ws we l)) ∧ Below w.heap.size w w' := by
  have HLN := Lib.hid hln
  obtain ⟨R, hR⟩ : ∃ R, R = fewB wk ws we l := ⟨_, rfl⟩
  rw [← hR]
  have HR := Lib.hid hR
  have HWIN := Lib.hid (fun W => rwindow_any wk ws we hwe W)
  clear hln hR
  have hL : Loc w [] := trivial
  go_enter Try.func46, Try.ntmps46
  have hl0 : Loc (w.alloc (.cells #[.int .u8 wk, .int .i64 ws, .int .i64 we] 23)) [(w.heap.size, [.int .u8 wk, .int .i64 ws, .int .i64 we])] := hL.new [.int .u8 wk, .int .i64 ws, .int .i64 we] 23
  go_wp2_with fail
  go_loopw [5] (fun iv wr => ∃ (k : Nat), iv = .int .i64 k ∧ k ≤ n ∧ (l.take k).all okB = true ∧ Loc wr [(w.heap.size, [.int .u8 wk, .int .i64 ws, .int .i64 we])] ∧ Below w.heap.size w wr) (fun iv _ => n - (intOf iv).toNat)
  case atStart => exact ⟨0, rfl, Nat.zero_le _, rfl, hl0, below_new (Below.refl _ _) _⟩
  case round =>
    obtain ⟨k, rfl, hk, hall, hl, hb⟩ := hrel
    have HALL := Lib.hid hall
    clear hall hl0
    have hF := hl
    (repeat unfold Loc at hF)
    by_cases hlt : k < n
    · obtain ⟨p, hp⟩ : ∃ p, l[k]? = some p := ⟨_, List.getElem?_eq_getElem (by rw [HLN.out]; exact hlt)⟩
      have d1 : decide ((k : Int) < (n : Int)) = true := by simp; omega
      have d1' : decide (k < n) = true := by simp [hlt]
      have k1 : (0 : Int) ≤ (k : Int) := by omega
      have k2 : (k : Int) < (n : Int) := by omega
      by_cases h40 : k < 40
      · have e1 : IntKind.i64.wrap ((k : Int) + 1) = (k : Int) + 1 := IntWalk.i64_in _ (by omega)
        have d2 : decide ((k : Int) < 40) = true := by simp; omega
        have d2' : decide (k < 40) = true := by simp [h40]
        have hbad := fun h => few_bad (wk := wk) (ws := ws) (we := we) hp (show okB p = false from h)
        have hgo : okB p = true → (l.take (k + 1)).all okB = true := fun h => by
          rw [List.take_add_one, hp, Option.toList, List.all_append, HALL.out]
          simp [h]
        obtain ⟨b, off, rfl, hbb, f0, f1, f2, f3⟩ := pt_cells (rd_grown hr hb) hp
        obtain ⟨q1, q2, q3, q4⟩ := p
        simp only at f0 f1 f2 f3
        have hokb : okB ⟨q1, q2, q3, q4⟩ = (decide (tchk q2 1 = 0) && (decide (0 ≤ q4) && decide (q4 ≤ 1))) := by
          rw [Bool.eq_iff_iff, okB_iff]
          simp only [decide_eq_true_eq, Bool.and_eq_true, tchk_zero]
          have hq : okP ⟨q1, q2, q3, q4⟩ ↔ ((-1099511627776 ≤ q2 ∧ q2 ≤ 1099511627776) ∧ (q4 = 0 ∨ q4 = 1)) := Iff.rfl
          rw [hq]
          constructor
          · rintro ⟨⟨h1, h2⟩, h3⟩; exact ⟨⟨by omega, by omega, h1, h2⟩, by omega, by omega⟩
          · rintro ⟨⟨_, _, h1, h2⟩, h3, h4⟩; exact ⟨⟨h1, h2⟩, by omega⟩
        obtain ⟨C, hC⟩ : ∃ C, C = tchk q2 1 := ⟨_, rfl⟩
        have htc := fun W => rcheck_any q2 1 W
        rw [← hC] at htc hokb
        have HTC := Lib.hid htc; have HBAD := Lib.hid hbad; have HGO := Lib.hid hgo; have HOK := Lib.hid hokb
        clear hbad hgo hp hlt h40 htc hC hokb
        have fin : okB ⟨q1, q2, q3, q4⟩ = false → R = false := fun h => by rw [HR.out]; exact HBAD.out h
        have FIN := Lib.hid fin
        clear fin
        by_cases c1 : C = 0
        · subst c1
          by_cases c2 : q4 < 0
          · have HF1 := Lib.hid (FIN.out (by rw [HOK.out]; simp; omega))
            go_wp2_with (go_at_call 18; refine (HTC.out _).mono ?_; rintro r w1 ⟨rfl, rfl⟩)
            go_ret
            exact ⟨ret_bool HF1.out.symm, hb⟩
          · by_cases c3 : 1 < q4
            · have HF1 := Lib.hid (FIN.out (by rw [HOK.out]; simp; omega))
              go_wp2_with (go_at_call 18; refine (HTC.out _).mono ?_; rintro r w1 ⟨rfl, rfl⟩)
              go_ret
              exact ⟨ret_bool HF1.out.symm, hb⟩
            · have HG2 := Lib.hid (HGO.out (by rw [HOK.out]; simp; omega))
              go_wp2_with (go_at_call 18; refine (HTC.out _).mono ?_; rintro r w1 ⟨rfl, rfl⟩)
              go_roundw
              case rel => exact ⟨k + 1, by go_num, by omega, HG2.out, hl, hb⟩
              case measure => simp [intOf]; omega
        · have d3 : (C != 0) = true := by simp [c1]
          have HF1 := Lib.hid (FIN.out (by rw [HOK.out]; simp [c1]))
          go_wp2_with (go_at_call 18; refine (HTC.out _).mono ?_; rintro r w1 ⟨rfl, rfl⟩)
          go_ret
          exact ⟨ret_bool HF1.out.symm, hb⟩
      · have d2 : decide ((k : Int) < 40) = false := by simp; omega
        have d2' : decide (k < 40) = false := by simp; omega
        have d4 : decide ((n : Int) ≤ 40) = false := by simp; omega
        have d4' : decide (n ≤ 40) = false := by simp; omega
        have HF1 := Lib.hid (show R = false by rw [HR.out]; exact few_many (by rw [HLN.out]; omega))
        clear h40 hlt hp
        go_wp2
        go_ret
        exact ⟨ret_bool HF1.out.symm, hb⟩
    · obtain rfl : k = n := by omega
      have d1 : decide ((k : Int) < (k : Int)) = false := by simp
      have d1' : decide (k < k) = false := by simp
      rw [List.take_of_length_le (by rw [HLN.out]; exact Nat.le_refl _)] at HALL
      by_cases h40 : k ≤ 40
      · have d4 : decide ((k : Int) ≤ 40) = true := by simp; omega
        have d4' : decide (k ≤ 40) = true := by simp [h40]
        have hRR : R = decide (wchk wk ws we = 0) := by
          rw [HR.out]; unfold fewB; rw [HALL.out, HLN.out, d4']; unfold wchk; by_cases hw : wok wk ws we <;> simp [hw]
        have HRR := Lib.hid hRR
        obtain ⟨D, hD⟩ : ∃ D, D = wchk wk ws we := ⟨_, rfl⟩
        rw [← hD] at HWIN HRR
        clear hlt h40 hRR hD
        go_wp2_with (go_at_call 17; refine (HWIN.out _).mono ?_; rintro r w1 ⟨rfl, hb1⟩)
        go_ret
        exact ⟨ret_bool (by rw [HRR.out]; first | rfl | (by_cases hz : D = 0 <;> simp [hz])), below_then hb hb1⟩
      · have d4 : decide ((k : Int) ≤ 40) = false := by simp; omega
        have d4' : decide (k ≤ 40) = false := by simp; omega
        have HF1 := Lib.hid (show R = false by rw [HR.out]; exact few_many (by rw [HLN.out]; omega))
        clear hlt h40
        go_wp2
        go_ret
        exact ⟨ret_bool HF1.out.symm, hb⟩
def ptok (p : Pt) : Prop := (Lit.int .i64 p.v).wf = true
theorem penc_dec (vs : List Value) (h : FitsL [some .i64, some .i64, some .i64, some .i64] vs) : ∃ x, vs = penc x ∧ ptok x := by
  obtain ⟨n1, v1, rfl, _, n2, v2, rfl, _, n3, v3, rfl, w3, n4, v4, rfl, _, rfl⟩ := h
  exact ⟨⟨n1, n2, n3, n4⟩, rfl, w3⟩
end Go.Proofs.Ytbbdepeifdbbdaa
