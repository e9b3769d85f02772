/- The walk of SinkSorted (chapter 34). No condition. -/
import Derived.Test.YtffehibdeogjeaaSinkLate
namespace Go.Proofs.Ytffehibdeogjeaa
open Go.RowKit

theorem wlt_cases {a b : Rw} (h : wlt b a = false) : a.e < b.e ∨ (a.e = b.e ∧ a.s < b.s) ∨ (a.e = b.e ∧ a.s = b.s ∧ ¬ b.k < a.k) := by
  unfold wlt at h
  have := of_decide_eq_false h
  omega
theorem oftenL_perm {l m : List Rw} (h : l.Perm m) (x : Rw) : oftenL l x = oftenL m x := (h.filter _).length_eq
theorem oftenL_count (l : List Rw) (x : Rw) : oftenL l x = l.count x := by
  unfold oftenL
  rw [List.count_eq_countP, List.countP_eq_length_filter]
  congr 1
theorem sameW_iff (l m : List Rw) : sameW l m = (decide (l.length = m.length) && l.all fun x => decide (oftenL l x = oftenL m x)) := by
  rw [Bool.eq_iff_iff, Bool.and_eq_true, decide_eq_true_eq, List.all_eq_true]
  unfold sameW listEq
  rw [decide_eq_true_eq]
  have p1 := sortL_perm wsto w0 l
  have p2 := sortL_perm wsto w0 m
  constructor
  · intro h
    have hp : l.Perm m := p1.symm.trans (h ▸ p2)
    exact ⟨hp.length_eq, fun x _ => decide_eq_true (oftenL_perm hp x)⟩
  · rintro ⟨hl, h⟩
    refine sortL_congr wsto w0 ?_
    have hp : (m.filter fun a => decide (a ∈ l)).Perm l := List.perm_iff_count.2 fun a => by
      by_cases ha : a ∈ l
      · have := of_decide_eq_true (h a ha)
        rw [oftenL_count, oftenL_count] at this
        rw [List.count_filter (by simpa using ha)]
        exact this.symm
      · rw [List.count_eq_zero.2 (by simp [ha]), List.count_eq_zero.2 ha]
    have hlen := hp.length_eq
    rw [hl] at hlen
    rw [List.filter_eq_self.2 (List.length_filter_eq_length_iff.1 hlen)] at hp
    exact hp.symm
theorem all_snoc {α : Type} (p : α → Bool) {l : List α} {k : Nat} {x : α} (h : l[k]? = some x) : (l.take (k + 1)).all p = ((l.take k).all p && p x) := by
  rw [List.take_add_one, h, List.all_append]
  simp

set_option maxHeartbeats 16000000 in
set_option maxRecDepth 100000 in
theorem sinkSorted_yes (w : World) (A A' : Option Addr) (c c' n n' : Nat) (l m : List Rw) (hn : l.length = n) (hn' : m.length = n') (lr : Rd wenc 5 w w.heap.size A l) (mr : Rd wenc 5 w w.heap.size A' m) (hz : A = none → c = 0) (hz' : A' = none → c' = 0) (h60 : n ≤ 60) (h60' : n' ≤ 60) :
    Calls Try.prog 11 #[.slice A n c, .slice A' n' c'] w fun r w' => r = .returned (.bool true) ∧ Below w.heap.size w w' := by
  have hro := fun W h => rows_any A c n l W hn hz (by omega) h
  have hsa := fun W h h' => sinksame_any A A' c c' n n' l m W hn hn' hz hz' (by omega) (by omega) h h'
  rw [if_neg (by omega), if_neg (by omega)] at hro hsa
  have hp := sortL_perm wsto w0 l
  have hsr := sortL_srt wsto w0 l
  obtain ⟨S, hS⟩ : ∃ S, S = sortL wlt w0 l := ⟨_, rfl⟩
  rw [← hS] at hro hp hsr
  have hSl : S.length = n := hp.length_eq.trans hn
  have hro2 := fun B d W z h => rows_any B d n S W hSl z (by omega) h
  rw [if_neg (by omega), if_neg (by omega), sortL_eq wsto w0 (List.Perm.refl S) hsr] at hro2
  have hiff := sameW_iff l m
  obtain ⟨R, hR⟩ : ∃ R, R = sameW l m := ⟨_, rfl⟩
  rw [← hR] at hsa hiff
  have ho1 := fun B d x W h => often_any B d n S x W h hSl (by omega)
  have ho2 := fun x W h => often_any A c n l x W h hn (by omega)
  have ho3 := fun x W h => often_any A' c' n' m x W h hn' (by omega)
  have HRO := Lib.hid hro; have HSA := Lib.hid hsa; have HRO2 := Lib.hid hro2; have HP := Lib.hid hp; have HSR := Lib.hid hsr; have HN := Lib.hid hn; have HN' := Lib.hid hn'; have HSL := Lib.hid hSl
  have HIFF := Lib.hid hiff; have HOS := Lib.hid ho1; have HOL := Lib.hid ho2; have HOM := Lib.hid ho3
  clear hro hsa hro2 hp hsr hn hn' hSl hS hz hz' hiff hR ho1 ho2 ho3
  have d0 : decide ((60 : Int) < (n : Int)) = false := by simp; omega
  have d0' : decide (60 < n) = false := by simp; omega
  have d1 : decide ((60 : Int) < (n' : Int)) = false := by simp; omega
  have d1' : decide (60 < n') = false := by simp; omega
  have d00 : ((n : Int) != (n : Int)) = false := by simp
  obtain ⟨sb0, hsb0⟩ : ∃ b, b = decide (n = n') := ⟨_, rfl⟩
  have dnn : ((n : Int) == (n' : Int)) = sb0 := by rw [hsb0, Bool.eq_iff_iff]; simp; omega
  have HSB := Lib.hid hsb0
  clear hsb0
  go_enter Try.func11, Try.ntmps11
  go_wp2_with fail
  go_at_call 46
  refine (alive34_any _).mono ?_
  rintro r w1 ⟨rfl, hb1⟩
  go_wp2_with fail
  go_at_call 48
  refine (HRO.out _ (rd_grown lr (by repeat (first | with_reducible exact Below.refl _ _ | with_reducible assumption | (with_reducible exact Env.below (by assumption)) | (with_reducible refine below_new ?_ _) | (with_reducible refine below_drew ?_) | (with_reducible refine below_drewN ?_ _) | (with_reducible refine below_put ?_ ?_ _; rotate_left 1; (dsimp only; omega)) | (with_reducible refine below_then ?_ (by assumption)))))).mono ?_
  rintro r w2 ⟨v2, rfl, own2, hb2⟩
  obtain ⟨A2, c2, rfl, -, z2⟩ := own_shape_z own2 HSL.out
  go_wp2_with fail
  go_at_call 48
  refine (HRO2.out _ _ _ z2 (Own.rd wenc_len own2)).mono ?_
  rintro r w3 ⟨v3, rfl, own3, hb3⟩
  obtain ⟨A3, c3, rfl, -, z3⟩ := own_shape_z own3 HSL.out
  go_wp2_with fail
  go_at_call 49
  refine (HSA.out _ (rd_grown lr (by repeat (first | with_reducible exact Below.refl _ _ | with_reducible assumption | (with_reducible exact Env.below (by assumption)) | (with_reducible refine below_new ?_ _) | (with_reducible refine below_drew ?_) | (with_reducible refine below_drewN ?_ _) | (with_reducible refine below_put ?_ ?_ _; rotate_left 1; (dsimp only; omega)) | (with_reducible refine below_then ?_ (by assumption))))) (rd_grown mr (by repeat (first | with_reducible exact Below.refl _ _ | with_reducible assumption | (with_reducible exact Env.below (by assumption)) | (with_reducible refine below_new ?_ _) | (with_reducible refine below_drew ?_) | (with_reducible refine below_drewN ?_ _) | (with_reducible refine below_put ?_ ?_ _; rotate_left 1; (dsimp only; omega)) | (with_reducible refine below_then ?_ (by assumption)))))).mono ?_
  rintro r w4 ⟨rfl, hb4⟩
  go_wp2_with fail
  go_at_call 50
  refine (rsame_any _ _ _ _ n n S S _ (rd_grown (Own.rd wenc_len own2) (by repeat (first | with_reducible exact Below.refl _ _ | with_reducible assumption | (with_reducible exact Env.below (by assumption)) | (with_reducible refine below_new ?_ _) | (with_reducible refine below_drew ?_) | (with_reducible refine below_drewN ?_ _) | (with_reducible refine below_put ?_ ?_ _; rotate_left 1; (dsimp only; omega)) | (with_reducible refine below_then ?_ (by assumption))))) (rd_grown (Own.rd wenc_len own3) (by repeat (first | with_reducible exact Below.refl _ _ | with_reducible assumption | (with_reducible exact Env.below (by assumption)) | (with_reducible refine below_new ?_ _) | (with_reducible refine below_drew ?_) | (with_reducible refine below_drewN ?_ _) | (with_reducible refine below_put ?_ ?_ _; rotate_left 1; (dsimp only; omega)) | (with_reducible refine below_then ?_ (by assumption))))) HSL.out HSL.out (by omega)).mono ?_
  rw [show listEq S S = true from decide_eq_true rfl]
  rintro r w5 ⟨rfl, hb5⟩
  have hb05 : Below w.heap.size w w5 := (by repeat (first | with_reducible exact Below.refl _ _ | with_reducible assumption | (with_reducible exact Env.below (by assumption)) | (with_reducible refine below_new ?_ _) | (with_reducible refine below_drew ?_) | (with_reducible refine below_drewN ?_ _) | (with_reducible refine below_put ?_ ?_ _; rotate_left 1; (dsimp only; omega)) | (with_reducible refine below_then ?_ (by assumption))))
  have rdS := rd_grown (Own.rd wenc_len own2) (below_then hb3 (below_then hb4 hb5))
  have rdL := rd_grown lr hb05
  have rdM := rd_grown mr hb05
  clear own2 own3 z2 z3 hb1 hb2 hb3 hb4 hb5 lr mr
  go_wp2_with fail
  go_loopw [12, 13] (fun sm i wr => ∃ (k : Nat) (sb : Bool), k ≤ n ∧ i = .int .i64 k ∧ sm = .bool sb ∧ sb = (sb0 && (l.take k).all fun x => decide (oftenL l x = oftenL m x)) ∧ Below w5.heap.size w5 wr) (fun _ i _ => n - (intOf i).toNat)
  case atStart => exact ⟨0, sb0, Nat.zero_le _, rfl, rfl, by simp, Below.refl _ _⟩
  case round =>
    obtain ⟨k, sb, hk, rfl, rfl, hsb, hb⟩ := hrel
    by_cases hlt : k < n
    · obtain ⟨x, hx⟩ : ∃ x, l[k]? = some x := ⟨_, List.getElem?_eq_getElem (by rw [HN.out]; exact hlt)⟩
      have hsn := all_snoc (fun x => decide (oftenL l x = oftenL m x)) hx
      obtain ⟨a1, ha1⟩ : ∃ a, a = oftenL S x := ⟨_, rfl⟩
      obtain ⟨a2, ha2⟩ : ∃ a, a = oftenL l x := ⟨_, rfl⟩
      obtain ⟨a3, ha3⟩ : ∃ a, a = oftenL m x := ⟨_, rfl⟩
      have h12 : a1 = a2 := by rw [ha1, ha2]; exact oftenL_perm HP.out x
      have HO1 := Lib.hid (fun W h => HOS.out A2 c2 x W h); have HO2 := Lib.hid (fun W h => HOL.out x W h); have HO3 := Lib.hid (fun W h => HOM.out x W h)
      rw [← ha1, h12] at HO1
      rw [← ha2] at HO2
      rw [← ha3] at HO3
      (try dsimp only at hsn)
      rw [← ha2, ← ha3] at hsn
      obtain ⟨q, hq⟩ : ∃ q, q = decide (a2 = a3) := ⟨_, rfl⟩
      rw [← hq] at hsn
      have hq1 : ((a2 : Int) == (a3 : Int)) = q := by rw [hq, Bool.eq_iff_iff]; simp; omega
      have hq2 : ((a2 : Int) != (a2 : Int)) = false := by simp
      have hnew : (sb && q) = (sb0 && (l.take (k + 1)).all fun x => decide (oftenL l x = oftenL m x)) := by rw [hsn, hsb, Bool.and_assoc]
      have HNEW := Lib.hid hnew
      have rdL2 := rd_grown rdL hb
      have rdS2 := rd_grown rdS hb
      have rdM2 := rd_grown rdM hb
      obtain ⟨b, off, rfl, hbb, f1, f2, f3, f4, f5⟩ := rw_cells rdL2 hx
      have dk : decide ((k : Int) < (n : Int)) = true := by simp; omega
      have dk' : decide (k < n) = true := by simp [hlt]
      have k1 : (0 : Int) ≤ (k : Int) := by omega
      have k2 : (k : Int) < (n : Int) := by omega
      have ek : IntKind.i64.wrap ((k : Int) + 1) = (k : Int) + 1 := IntWalk.i64_in _ (by omega)
      clear hx hsn hsb hq hnew h12 ha1 ha2 ha3
      have hE : Env wr [] wr := ⟨Below.refl _ _, trivial⟩
      have hR0 : ∀ X, Env wr [] X → X.cell? ⟨b, off + k * 5, none⟩ = some (.int .i64 x.k) ∧ X.cell? ⟨b, off + k * 5 + 1, none⟩ = some (.int .i64 x.s) ∧ X.cell? ⟨b, off + k * 5 + 2, none⟩ = some (.int .i64 x.e) ∧ X.cell? ⟨b, off + k * 5 + 3, none⟩ = some (.int .i64 x.a) ∧ X.cell? ⟨b, off + k * 5 + 4, none⟩ = some (.int .i64 x.b) := fun X hX =>
        ⟨(hX.1.cell (p := ⟨b, off + k * 5, none⟩) hbb).trans f1, (hX.1.cell (p := ⟨b, off + k * 5 + 1, none⟩) hbb).trans f2, (hX.1.cell (p := ⟨b, off + k * 5 + 2, none⟩) hbb).trans f3, (hX.1.cell (p := ⟨b, off + k * 5 + 3, none⟩) hbb).trans f4, (hX.1.cell (p := ⟨b, off + k * 5 + 4, none⟩) hbb).trans f5⟩
      go_wp2_with fail
      refine wp_region_held_drew (S := Env wr []) (by kernel_rfl) (by (first | assumption | exact Env.step (by assumption) (by assumption) | exact Env.old (by assumption) _ | exact Env.drew hE | exact hE | exact Env.drew (by assumption) | exact Env.drew (Env.old (by assumption) _) | ((repeat first | refine Env.far0 ?_ (by assumption) _ | refine Env.far1 ?_ (by assumption) _ | refine Env.farA ?_ (by assumption) _); assumption))) (fun hHeld => ?_)
      refine hTake 0 (by kernel_rfl) (by kernel_rfl) (by kernel_rfl) (by decide) (by assumption) ?_; (intro oi hoi; simp only [List.getElem?_toArray, List.getElem?_cons_zero] at hoi; obtain rfl := Option.some.inj hoi; clear hoi); refine ⟨rfl, ?_⟩; apply Exists.intro; refine ⟨?_, fun _ _ _ h => h, ?_⟩; (intro w hSw; (try dsimp only at hSw); go_simp; (try with_reducible rfl)); (try simp only [Act.put, List.setIfInBounds_toArray, List.set_cons_zero, List.set_cons_succ]); refine hTake 1 (by kernel_rfl) (by kernel_rfl) (by kernel_rfl) (by decide) (by assumption) ?_; (intro oi hoi; simp only [List.getElem?_toArray, List.getElem?_cons_succ, List.getElem?_cons_zero] at hoi; obtain rfl := Option.some.inj hoi; clear hoi); refine ⟨rfl, ?_⟩; apply Exists.intro; refine ⟨?_, fun _ _ _ h => h, ?_⟩; (intro w hSw; (try dsimp only at hSw); go_simp; (try with_reducible rfl)); (try simp only [Act.put, List.setIfInBounds_toArray, List.set_cons_zero, List.set_cons_succ]); refine hTake 2 (by kernel_rfl) (by kernel_rfl) (by kernel_rfl) (by decide) (by assumption) ?_; (intro oi hoi; simp only [List.getElem?_toArray, List.getElem?_cons_succ, List.getElem?_cons_zero] at hoi; obtain rfl := Option.some.inj hoi; clear hoi); refine ⟨rfl, ?_⟩; apply Exists.intro; refine ⟨?_, fun _ _ _ h => h, ?_⟩; (intro w hSw; (try dsimp only at hSw); go_simp; (try with_reducible rfl)); (try simp only [Act.put, List.setIfInBounds_toArray, List.set_cons_zero, List.set_cons_succ]); refine hTake 3 (by kernel_rfl) (by kernel_rfl) (by kernel_rfl) (by decide) (by assumption) ?_; (intro oi hoi; simp only [List.getElem?_toArray, List.getElem?_cons_succ, List.getElem?_cons_zero] at hoi; obtain rfl := Option.some.inj hoi; clear hoi); refine ⟨rfl, ?_⟩; apply Exists.intro; refine ⟨?_, fun _ _ _ h => h, ?_⟩; (intro w hSw; (try dsimp only at hSw); go_simp; (try with_reducible rfl)); (try simp only [Act.put, List.setIfInBounds_toArray, List.set_cons_zero, List.set_cons_succ]); refine hTake 4 (by kernel_rfl) (by kernel_rfl) (by kernel_rfl) (by decide) (by assumption) ?_; (intro oi hoi; simp only [List.getElem?_toArray, List.getElem?_cons_succ, List.getElem?_cons_zero] at hoi; obtain rfl := Option.some.inj hoi; clear hoi); refine ⟨rfl, ?_⟩; apply Exists.intro; refine ⟨?_, fun _ _ _ h => h, ?_⟩; (intro w hSw; (try dsimp only at hSw); go_simp; (try with_reducible rfl)); (try simp only [Act.put, List.setIfInBounds_toArray, List.set_cons_zero, List.set_cons_succ]); refine hTake 6 (by kernel_rfl) (by kernel_rfl) (by kernel_rfl) (by decide) (by assumption) ?_; (intro oi hoi; simp only [List.getElem?_toArray, List.getElem?_cons_succ, List.getElem?_cons_zero] at hoi; obtain rfl := Option.some.inj hoi; clear hoi); refine ⟨rfl, ?_⟩; apply Exists.intro; refine ⟨?_, fun _ _ _ h => h, ?_⟩; (intro w hSw; (try dsimp only at hSw); go_simp; (try with_reducible rfl)); (try simp only [Act.put, List.setIfInBounds_toArray, List.set_cons_zero, List.set_cons_succ]); refine hTake 7 (by kernel_rfl) (by kernel_rfl) (by kernel_rfl) (by decide) (by assumption) ?_; (intro oi hoi; simp only [List.getElem?_toArray, List.getElem?_cons_succ, List.getElem?_cons_zero] at hoi; obtain rfl := Option.some.inj hoi; clear hoi); refine ⟨rfl, ?_⟩; apply Exists.intro; refine ⟨?_, fun _ _ _ h => h, ?_⟩; (intro w hSw; (try dsimp only at hSw); go_simp; (try with_reducible rfl)); (try simp only [Act.put, List.setIfInBounds_toArray, List.set_cons_zero, List.set_cons_succ]); refine hTake 8 (by kernel_rfl) (by kernel_rfl) (by kernel_rfl) (by decide) (by assumption) ?_; (intro oi hoi; simp only [List.getElem?_toArray, List.getElem?_cons_succ, List.getElem?_cons_zero] at hoi; obtain rfl := Option.some.inj hoi; clear hoi); refine ⟨rfl, ?_⟩; apply Exists.intro; refine ⟨?_, fun _ _ _ h => h, ?_⟩; (intro w hSw; (try dsimp only at hSw); go_simp; (try with_reducible rfl)); (try simp only [Act.put, List.setIfInBounds_toArray, List.set_cons_zero, List.set_cons_succ]); refine hTake 9 (by kernel_rfl) (by kernel_rfl) (by kernel_rfl) (by decide) (by assumption) ?_; (intro oi hoi; simp only [List.getElem?_toArray, List.getElem?_cons_succ, List.getElem?_cons_zero] at hoi; obtain rfl := Option.some.inj hoi; clear hoi); refine ⟨rfl, ?_⟩; apply Exists.intro; refine ⟨?_, fun _ _ _ h => h, ?_⟩; (intro w hSw; (try dsimp only at hSw); go_simp; (try with_reducible rfl)); (try simp only [Act.put, List.setIfInBounds_toArray, List.set_cons_zero, List.set_cons_succ]); refine hTake 10 (by kernel_rfl) (by kernel_rfl) (by kernel_rfl) (by decide) (by assumption) ?_; (intro oi hoi; simp only [List.getElem?_toArray, List.getElem?_cons_succ, List.getElem?_cons_zero] at hoi; obtain rfl := Option.some.inj hoi; clear hoi); refine ⟨rfl, ?_⟩; apply Exists.intro; refine ⟨?_, fun _ _ _ h => h, ?_⟩; (intro w hSw; (try dsimp only at hSw); go_simp; (try with_reducible rfl)); (try simp only [Act.put, List.setIfInBounds_toArray, List.set_cons_zero, List.set_cons_succ])
      refine hOnly 5 (by kernel_rfl) (by decide) ?_; (intro oi hoi; simp only [List.getElem?_toArray, List.getElem?_cons_succ, List.getElem?_cons_zero] at hoi; obtain rfl := Option.some.inj hoi; clear hoi); intro K hK; go_simp
      go_at_call 51
      refine (HO1.out _ (rd_grown rdS2 hHeld.1)).mono ?_
      rintro r x1 ⟨rfl, hb6⟩
      have hE6 := Env.step hb6 hHeld
      clear hb6
      refine hK.out _ _ hE6 (fun hHeld => ?_)
      clear hK K hE6
      (try simp only [Act.put, List.setIfInBounds_toArray, List.set_cons_zero, List.set_cons_succ])
      refine hOnly 11 (by kernel_rfl) (by decide) ?_; (intro oi hoi; simp only [List.getElem?_toArray, List.getElem?_cons_succ, List.getElem?_cons_zero] at hoi; obtain rfl := Option.some.inj hoi; clear hoi); intro K hK; go_simp
      go_at_call 51
      refine (HO2.out _ (rd_grown rdL2 hHeld.1)).mono ?_
      rintro r x2 ⟨rfl, hb6⟩
      have hE6 := Env.step hb6 hHeld
      clear hb6
      refine hK.out _ _ hE6 (fun hHeld => ?_)
      clear hK K hE6
      (try simp only [Act.put, List.setIfInBounds_toArray, List.set_cons_zero, List.set_cons_succ])
      refine hTake 12 (by kernel_rfl) (by kernel_rfl) (by kernel_rfl) (by decide) (by assumption) ?_; (intro oi hoi; simp only [List.getElem?_toArray, List.getElem?_cons_succ, List.getElem?_cons_zero] at hoi; obtain rfl := Option.some.inj hoi; clear hoi); refine ⟨rfl, ?_⟩; apply Exists.intro; refine ⟨?_, fun _ _ _ h => h, ?_⟩; (intro w hSw; (try dsimp only at hSw); go_simp; (try with_reducible rfl)); (try simp only [Act.put, List.setIfInBounds_toArray, List.set_cons_zero, List.set_cons_succ])
      refine wpAnyH_done (by kernel_rfl) ?_ _
      have hbX := below_then hb hHeld.1
      have rdL3 := rd_grown rdL2 hHeld.1
      have rdM3 := rd_grown rdM2 hHeld.1
      obtain ⟨f1, f2, f3, f4, f5⟩ := hR0 _ hHeld
      have hbb2 : b < x2.heap.size := Nat.lt_of_lt_of_le hbb hHeld.1.size
      clear hR0 hE hHeld rdS2 rdL2 rdM2
      cases sb with
      | false =>
        go_wp2_with fail
        go_quiet (fail)
        have hbX2 := below_drewN (below_then hb05 hbX) nq
        go_wp2
        go_roundw
        case rel => exact ⟨k + 1, _, by omega, by go_num, rfl, HNEW.out, below_drewN hbX _⟩
        case measure => simp [intOf]; omega
      | true =>
        have hE : Env x2 [] x2 := ⟨Below.refl _ _, trivial⟩
        have hR0 : ∀ X, Env x2 [] X → X.cell? ⟨b, off + k * 5, none⟩ = some (.int .i64 x.k) ∧ X.cell? ⟨b, off + k * 5 + 1, none⟩ = some (.int .i64 x.s) ∧ X.cell? ⟨b, off + k * 5 + 2, none⟩ = some (.int .i64 x.e) ∧ X.cell? ⟨b, off + k * 5 + 3, none⟩ = some (.int .i64 x.a) ∧ X.cell? ⟨b, off + k * 5 + 4, none⟩ = some (.int .i64 x.b) := fun X hX =>
          ⟨(hX.1.cell (p := ⟨b, off + k * 5, none⟩) hbb2).trans f1, (hX.1.cell (p := ⟨b, off + k * 5 + 1, none⟩) hbb2).trans f2, (hX.1.cell (p := ⟨b, off + k * 5 + 2, none⟩) hbb2).trans f3, (hX.1.cell (p := ⟨b, off + k * 5 + 3, none⟩) hbb2).trans f4, (hX.1.cell (p := ⟨b, off + k * 5 + 4, none⟩) hbb2).trans f5⟩
        go_wp2_with fail
        refine wp_region_held_drew (S := Env x2 []) (by kernel_rfl) (by (first | assumption | exact Env.step (by assumption) (by assumption) | exact Env.old (by assumption) _ | exact Env.drew hE | exact hE | exact Env.drew (by assumption) | exact Env.drew (Env.old (by assumption) _) | ((repeat first | refine Env.far0 ?_ (by assumption) _ | refine Env.far1 ?_ (by assumption) _ | refine Env.farA ?_ (by assumption) _); assumption))) (fun hHeld => ?_)
        refine hTake 0 (by kernel_rfl) (by kernel_rfl) (by kernel_rfl) (by decide) (by assumption) ?_; (intro oi hoi; simp only [List.getElem?_toArray, List.getElem?_cons_zero] at hoi; obtain rfl := Option.some.inj hoi; clear hoi); refine ⟨rfl, ?_⟩; apply Exists.intro; refine ⟨?_, fun _ _ _ h => h, ?_⟩; (intro w hSw; (try dsimp only at hSw); go_simp; (try with_reducible rfl)); (try simp only [Act.put, List.setIfInBounds_toArray, List.set_cons_zero, List.set_cons_succ]); refine hTake 1 (by kernel_rfl) (by kernel_rfl) (by kernel_rfl) (by decide) (by assumption) ?_; (intro oi hoi; simp only [List.getElem?_toArray, List.getElem?_cons_succ, List.getElem?_cons_zero] at hoi; obtain rfl := Option.some.inj hoi; clear hoi); refine ⟨rfl, ?_⟩; apply Exists.intro; refine ⟨?_, fun _ _ _ h => h, ?_⟩; (intro w hSw; (try dsimp only at hSw); go_simp; (try with_reducible rfl)); (try simp only [Act.put, List.setIfInBounds_toArray, List.set_cons_zero, List.set_cons_succ]); refine hTake 2 (by kernel_rfl) (by kernel_rfl) (by kernel_rfl) (by decide) (by assumption) ?_; (intro oi hoi; simp only [List.getElem?_toArray, List.getElem?_cons_succ, List.getElem?_cons_zero] at hoi; obtain rfl := Option.some.inj hoi; clear hoi); refine ⟨rfl, ?_⟩; apply Exists.intro; refine ⟨?_, fun _ _ _ h => h, ?_⟩; (intro w hSw; (try dsimp only at hSw); go_simp; (try with_reducible rfl)); (try simp only [Act.put, List.setIfInBounds_toArray, List.set_cons_zero, List.set_cons_succ]); refine hTake 3 (by kernel_rfl) (by kernel_rfl) (by kernel_rfl) (by decide) (by assumption) ?_; (intro oi hoi; simp only [List.getElem?_toArray, List.getElem?_cons_succ, List.getElem?_cons_zero] at hoi; obtain rfl := Option.some.inj hoi; clear hoi); refine ⟨rfl, ?_⟩; apply Exists.intro; refine ⟨?_, fun _ _ _ h => h, ?_⟩; (intro w hSw; (try dsimp only at hSw); go_simp; (try with_reducible rfl)); (try simp only [Act.put, List.setIfInBounds_toArray, List.set_cons_zero, List.set_cons_succ]); refine hTake 4 (by kernel_rfl) (by kernel_rfl) (by kernel_rfl) (by decide) (by assumption) ?_; (intro oi hoi; simp only [List.getElem?_toArray, List.getElem?_cons_succ, List.getElem?_cons_zero] at hoi; obtain rfl := Option.some.inj hoi; clear hoi); refine ⟨rfl, ?_⟩; apply Exists.intro; refine ⟨?_, fun _ _ _ h => h, ?_⟩; (intro w hSw; (try dsimp only at hSw); go_simp; (try with_reducible rfl)); (try simp only [Act.put, List.setIfInBounds_toArray, List.set_cons_zero, List.set_cons_succ]); refine hTake 5 (by kernel_rfl) (by kernel_rfl) (by kernel_rfl) (by decide) (by assumption) ?_; (intro oi hoi; simp only [List.getElem?_toArray, List.getElem?_cons_succ, List.getElem?_cons_zero] at hoi; obtain rfl := Option.some.inj hoi; clear hoi); refine ⟨rfl, ?_⟩; apply Exists.intro; refine ⟨?_, fun _ _ _ h => h, ?_⟩; (intro w hSw; (try dsimp only at hSw); go_simp; (try with_reducible rfl)); (try simp only [Act.put, List.setIfInBounds_toArray, List.set_cons_zero, List.set_cons_succ]); refine hTake 6 (by kernel_rfl) (by kernel_rfl) (by kernel_rfl) (by decide) (by assumption) ?_; (intro oi hoi; simp only [List.getElem?_toArray, List.getElem?_cons_succ, List.getElem?_cons_zero] at hoi; obtain rfl := Option.some.inj hoi; clear hoi); refine ⟨rfl, ?_⟩; apply Exists.intro; refine ⟨?_, fun _ _ _ h => h, ?_⟩; (intro w hSw; (try dsimp only at hSw); go_simp; (try with_reducible rfl)); (try simp only [Act.put, List.setIfInBounds_toArray, List.set_cons_zero, List.set_cons_succ]); refine hTake 8 (by kernel_rfl) (by kernel_rfl) (by kernel_rfl) (by decide) (by assumption) ?_; (intro oi hoi; simp only [List.getElem?_toArray, List.getElem?_cons_succ, List.getElem?_cons_zero] at hoi; obtain rfl := Option.some.inj hoi; clear hoi); refine ⟨rfl, ?_⟩; apply Exists.intro; refine ⟨?_, fun _ _ _ h => h, ?_⟩; (intro w hSw; (try dsimp only at hSw); go_simp; (try with_reducible rfl)); (try simp only [Act.put, List.setIfInBounds_toArray, List.set_cons_zero, List.set_cons_succ]); refine hTake 9 (by kernel_rfl) (by kernel_rfl) (by kernel_rfl) (by decide) (by assumption) ?_; (intro oi hoi; simp only [List.getElem?_toArray, List.getElem?_cons_succ, List.getElem?_cons_zero] at hoi; obtain rfl := Option.some.inj hoi; clear hoi); refine ⟨rfl, ?_⟩; apply Exists.intro; refine ⟨?_, fun _ _ _ h => h, ?_⟩; (intro w hSw; (try dsimp only at hSw); go_simp; (try with_reducible rfl)); (try simp only [Act.put, List.setIfInBounds_toArray, List.set_cons_zero, List.set_cons_succ]); refine hTake 10 (by kernel_rfl) (by kernel_rfl) (by kernel_rfl) (by decide) (by assumption) ?_; (intro oi hoi; simp only [List.getElem?_toArray, List.getElem?_cons_succ, List.getElem?_cons_zero] at hoi; obtain rfl := Option.some.inj hoi; clear hoi); refine ⟨rfl, ?_⟩; apply Exists.intro; refine ⟨?_, fun _ _ _ h => h, ?_⟩; (intro w hSw; (try dsimp only at hSw); go_simp; (try with_reducible rfl)); (try simp only [Act.put, List.setIfInBounds_toArray, List.set_cons_zero, List.set_cons_succ]); refine hTake 11 (by kernel_rfl) (by kernel_rfl) (by kernel_rfl) (by decide) (by assumption) ?_; (intro oi hoi; simp only [List.getElem?_toArray, List.getElem?_cons_succ, List.getElem?_cons_zero] at hoi; obtain rfl := Option.some.inj hoi; clear hoi); refine ⟨rfl, ?_⟩; apply Exists.intro; refine ⟨?_, fun _ _ _ h => h, ?_⟩; (intro w hSw; (try dsimp only at hSw); go_simp; (try with_reducible rfl)); (try simp only [Act.put, List.setIfInBounds_toArray, List.set_cons_zero, List.set_cons_succ]); refine hTake 12 (by kernel_rfl) (by kernel_rfl) (by kernel_rfl) (by decide) (by assumption) ?_; (intro oi hoi; simp only [List.getElem?_toArray, List.getElem?_cons_succ, List.getElem?_cons_zero] at hoi; obtain rfl := Option.some.inj hoi; clear hoi); refine ⟨rfl, ?_⟩; apply Exists.intro; refine ⟨?_, fun _ _ _ h => h, ?_⟩; (intro w hSw; (try dsimp only at hSw); go_simp; (try with_reducible rfl)); (try simp only [Act.put, List.setIfInBounds_toArray, List.set_cons_zero, List.set_cons_succ])
        refine hOnly 7 (by kernel_rfl) (by decide) ?_; (intro oi hoi; simp only [List.getElem?_toArray, List.getElem?_cons_succ, List.getElem?_cons_zero] at hoi; obtain rfl := Option.some.inj hoi; clear hoi); intro K hK; go_simp
        go_at_call 51
        refine (HO2.out _ (rd_grown rdL3 hHeld.1)).mono ?_
        rintro r x3 ⟨rfl, hb6⟩
        have hE6 := Env.step hb6 hHeld
        clear hb6
        refine hK.out _ _ hE6 (fun hHeld => ?_)
        clear hK K hE6
        (try simp only [Act.put, List.setIfInBounds_toArray, List.set_cons_zero, List.set_cons_succ])
        refine hOnly 13 (by kernel_rfl) (by decide) ?_; (intro oi hoi; simp only [List.getElem?_toArray, List.getElem?_cons_succ, List.getElem?_cons_zero] at hoi; obtain rfl := Option.some.inj hoi; clear hoi); intro K hK; go_simp
        go_at_call 51
        refine (HO3.out _ (rd_grown rdM3 hHeld.1)).mono ?_
        rintro r x4 ⟨rfl, hb6⟩
        have hE6 := Env.step hb6 hHeld
        clear hb6
        refine hK.out _ _ hE6 (fun hHeld => ?_)
        clear hK K hE6
        (try simp only [Act.put, List.setIfInBounds_toArray, List.set_cons_zero, List.set_cons_succ])
        refine hTake 14 (by kernel_rfl) (by kernel_rfl) (by kernel_rfl) (by decide) (by assumption) ?_; (intro oi hoi; simp only [List.getElem?_toArray, List.getElem?_cons_succ, List.getElem?_cons_zero] at hoi; obtain rfl := Option.some.inj hoi; clear hoi); refine ⟨rfl, ?_⟩; apply Exists.intro; refine ⟨?_, fun _ _ _ h => h, ?_⟩; (intro w hSw; (try dsimp only at hSw); go_simp; (try with_reducible rfl)); (try simp only [Act.put, List.setIfInBounds_toArray, List.set_cons_zero, List.set_cons_succ]); refine hTake 15 (by kernel_rfl) (by kernel_rfl) (by kernel_rfl) (by decide) (by assumption) ?_; (intro oi hoi; simp only [List.getElem?_toArray, List.getElem?_cons_succ, List.getElem?_cons_zero] at hoi; obtain rfl := Option.some.inj hoi; clear hoi); refine ⟨rfl, ?_⟩; apply Exists.intro; refine ⟨?_, fun _ _ _ h => h, ?_⟩; (intro w hSw; (try dsimp only at hSw); go_simp; (try with_reducible rfl)); (try simp only [Act.put, List.setIfInBounds_toArray, List.set_cons_zero, List.set_cons_succ]); refine hTake 16 (by kernel_rfl) (by kernel_rfl) (by kernel_rfl) (by decide) (by assumption) ?_; (intro oi hoi; simp only [List.getElem?_toArray, List.getElem?_cons_succ, List.getElem?_cons_zero] at hoi; obtain rfl := Option.some.inj hoi; clear hoi); refine ⟨rfl, ?_⟩; apply Exists.intro; refine ⟨?_, fun _ _ _ h => h, ?_⟩; (intro w hSw; (try dsimp only at hSw); go_simp; (try with_reducible rfl)); (try simp only [Act.put, List.setIfInBounds_toArray, List.set_cons_zero, List.set_cons_succ])
        refine wpAnyH_done (by kernel_rfl) ?_ _
        have hbY := below_then hbX hHeld.1
        clear hR0 hE hHeld
        go_wp2
        go_roundw
        case rel => exact ⟨k + 1, _, by omega, by go_num, rfl, HNEW.out, hbY⟩
        case measure => simp [intOf]; omega
    · obtain rfl : n = k := by omega
      have dk : decide ((n : Int) < (n : Int)) = false := by simp
      have dk' : decide (n < n) = false := by simp
      have hR : R = sb := by rw [HIFF.out, hsb, HSB.out, HN.out, HN'.out, List.take_of_length_le (by rw [HN.out]; exact Nat.le_refl _)]
      subst hR
      have hb0 := below_then hb05 hb
      have rdS2 := rd_grown rdS hb
      clear hsb hb05 hb rdS rdL rdM
      go_wp2_with fail
      go_loopw [14] (fun i wp => ∃ j : Nat, i = .int .i64 ((j : Int) + 1) ∧ (j + 1 ≤ n ∨ j = 0) ∧ Below wr.heap.size wr wp) (fun i _ => n - (intOf i).toNat)
      case atStart => exact ⟨0, by go_num, .inr rfl, Below.refl _ _⟩
      case round =>
        obtain ⟨j, rfl, hj, hb⟩ := hrel
        by_cases hlt : j + 1 < n
        · obtain ⟨x, hx⟩ : ∃ x, S[j]? = some x := ⟨_, List.getElem?_eq_getElem (by rw [HSL.out]; omega)⟩
          obtain ⟨y, hy⟩ : ∃ x, S[j + 1]? = some x := ⟨_, List.getElem?_eq_getElem (by rw [HSL.out]; omega)⟩
          have hc := wlt_cases (srt_next HSR.out hx hy)
          have rdS3 := rd_grown rdS2 hb
          obtain ⟨b, off, rfl, hbb, f1, f2, f3, f4, f5⟩ := rw_cells rdS3 hx
          obtain ⟨b', off', e', -, g1, g2, g3, g4, g5⟩ := rw_cells rdS3 hy
          simp only [Option.some.injEq, Addr.mk.injEq, and_true] at e'
          obtain ⟨rfl, rfl⟩ := e'
          obtain ⟨x1, x2, x3, x4, x5⟩ := x
          obtain ⟨y1, y2, y3, y4, y5⟩ := y
          dsimp only at f1 f2 f3 f4 f5 g1 g2 g3 g4 g5 hc
          have d1 : decide ((j : Int) + 1 < (n : Int)) = true := by simp; omega
          have e1 : IntKind.i64.wrap ((j : Int) + 1) = (j : Int) + 1 := IntWalk.i64_in _ (by omega)
          have e2 : IntKind.i64.wrap ((j : Int) + 1 + 1) = (j : Int) + 1 + 1 := IntWalk.i64_in _ (by omega)
          have e3 : IntKind.i64.wrap (j : Int) = (j : Int) := IntWalk.i64_in _ (by omega)
          have i1 : (0 : Int) ≤ (j : Int) := by omega
          have i2 : (j : Int) < (n : Int) := by omega
          have i3 : (0 : Int) ≤ (j : Int) + 1 := by omega
          have i4 : (j : Int) + 1 < (n : Int) := by omega
          have i5 : ((j : Int) + 1).toNat = j + 1 := by omega
          clear hx hy rdS3
          rcases hc with h1 | ⟨rfl, h1⟩ | ⟨rfl, rfl, h1⟩
          · have t1 : decide (y3 < x3) = false := by simp; omega
            have t2 : (x3 == y3) = false := by simp; omega
            clear h1
            go_wp2_with fail
            go_region
            all_goals
              go_wp2
              go_roundw
              case rel => exact ⟨j + 1, by go_num, by omega, (by repeat (first | with_reducible exact Below.refl _ _ | with_reducible assumption | (with_reducible exact Env.below (by assumption)) | (with_reducible refine below_new ?_ _) | (with_reducible refine below_drew ?_) | (with_reducible refine below_drewN ?_ _) | (with_reducible refine below_put ?_ ?_ _; rotate_left 1; (dsimp only; omega)) | (with_reducible refine below_then ?_ (by assumption))))⟩
              case measure => simp [intOf]; omega
          · have t1 : decide (y2 < x2) = false := by simp; omega
            have t2 : (x2 == y2) = false := by simp; omega
            clear h1
            go_wp2_with fail
            go_region
            all_goals
              go_wp2
              go_roundw
              case rel => exact ⟨j + 1, by go_num, by omega, (by repeat (first | with_reducible exact Below.refl _ _ | with_reducible assumption | (with_reducible exact Env.below (by assumption)) | (with_reducible refine below_new ?_ _) | (with_reducible refine below_drew ?_) | (with_reducible refine below_drewN ?_ _) | (with_reducible refine below_put ?_ ?_ _; rotate_left 1; (dsimp only; omega)) | (with_reducible refine below_then ?_ (by assumption))))⟩
              case measure => simp [intOf]; omega
          · have t1 : decide (y1 < x1) = false := by simp; omega
            clear h1
            go_wp2_with fail
            go_region
            all_goals
              go_wp2
              go_roundw
              case rel => exact ⟨j + 1, by go_num, by omega, (by repeat (first | with_reducible exact Below.refl _ _ | with_reducible assumption | (with_reducible exact Env.below (by assumption)) | (with_reducible refine below_new ?_ _) | (with_reducible refine below_drew ?_) | (with_reducible refine below_drewN ?_ _) | (with_reducible refine below_put ?_ ?_ _; rotate_left 1; (dsimp only; omega)) | (with_reducible refine below_then ?_ (by assumption))))⟩
              case measure => simp [intOf]; omega
        · have d1 : decide ((j : Int) + 1 < (n : Int)) = false := by simp; omega
          have hb1 := below_then hb0 hb
          have drr : (R == R) = true := by simp
          clear hb0 hb rdS2
          rcases R with _ | _
          all_goals
            go_wp2
            go_ret
            exact ⟨rfl, hb1⟩

set_option maxHeartbeats 8000000 in
set_option maxRecDepth 100000 in
theorem sinkSorted_walk {w : World} (A : Option Addr) (c : Nat) (l : List Rw) (_lc : l.length ≤ c) (_lm : c ≤ maxLen) (_lw : ∀ x ∈ l, rowok x) (lr : Rd wenc 5 w w.heap.size A l) (ln : A = none → c = 0)
    (A' : Option Addr) (c' : Nat) (m : List Rw) (_mc : m.length ≤ c') (_mm : c' ≤ maxLen) (_mw : ∀ x ∈ m, rowok x) (mr : Rd wenc 5 w w.heap.size A' m) (mn : A' = none → c' = 0) :
    Calls Try.prog 11 #[.slice A l.length c, .slice A' m.length c'] w fun r w' => r = .returned (.bool true) ∧ Below w.heap.size w w' := by
  obtain ⟨n, hn⟩ : ∃ n, l.length = n := ⟨_, rfl⟩
  obtain ⟨n', hn'⟩ : ∃ n, m.length = n := ⟨_, rfl⟩
  rw [hn] at _lc ⊢
  rw [hn'] at _mc ⊢
  by_cases h60 : n ≤ 60
  · have d0 : decide ((60 : Int) < (n : Int)) = false := by simp; omega
    have d0' : decide (60 < n) = false := by simp; omega
    by_cases h60' : n' ≤ 60
    · exact sinkSorted_yes w A A' c c' n n' l m hn hn' lr mr ln mn h60 h60'
    · have d1 : decide ((60 : Int) < (n' : Int)) = true := by simp; omega
      have d1' : decide (60 < n') = true := by simp; omega
      clear hn hn'
      go_enter Try.func11, Try.ntmps11
      go_wp2_with fail
      go_at_call 46
      refine (alive34_any _).mono ?_
      rintro r w1 ⟨rfl, hb1⟩
      go_wp2
      go_ret
      exact ⟨rfl, (by repeat (first | with_reducible exact Below.refl _ _ | with_reducible assumption | (with_reducible exact Env.below (by assumption)) | (with_reducible refine below_new ?_ _) | (with_reducible refine below_drew ?_) | (with_reducible refine below_drewN ?_ _) | (with_reducible refine below_put ?_ ?_ _; rotate_left 1; (dsimp only; omega)) | (with_reducible refine below_then ?_ (by assumption))))⟩
  · have d0 : decide ((60 : Int) < (n : Int)) = true := by simp; omega
    have d0' : decide (60 < n) = true := by simp; omega
    clear hn hn'
    go_enter Try.func11, Try.ntmps11
    go_wp2_with fail
    go_at_call 46
    refine (alive34_any _).mono ?_
    rintro r w1 ⟨rfl, hb1⟩
    go_wp2
    go_ret
    exact ⟨rfl, (by repeat (first | with_reducible exact Below.refl _ _ | with_reducible assumption | (with_reducible exact Env.below (by assumption)) | (with_reducible refine below_new ?_ _) | (with_reducible refine below_drew ?_) | (with_reducible refine below_drewN ?_ _) | (with_reducible refine below_put ?_ ?_ _; rotate_left 1; (dsimp only; omega)) | (with_reducible refine below_then ?_ (by assumption))))⟩
end Go.Proofs.Ytffehibdeogjeaa
