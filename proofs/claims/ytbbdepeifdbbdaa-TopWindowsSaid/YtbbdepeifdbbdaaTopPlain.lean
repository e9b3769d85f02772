/- The layers of windows in plain terms: what a mark fires of a store are the timers of its entries up to it. No condition. -/
import Derived.Test.YtbbdepeifdbbdaaPaneVals
import Derived.Test.YtbbdepeifdbbdaaStoreFire
import Derived.Test.YtbbdepeifdbbdaaKitK
namespace Go.Proofs.Ytbbdepeifdbbdaa
open Go.RowKit

/-- The timer of an entry. -/
def tmE (x : En) : Tm := ⟨x.s, x.e, x.k⟩
theorem tmE_lt (x y : En) : tlt (tmE x) (tmE y) = enlt x y := rfl
theorem tmE_srt {a : List En} (h : SS a) : Srt tlt (a.map tmE) := by
  unfold Srt
  rw [List.pairwise_map]
  refine List.Pairwise.imp (fun {x y} hxy => ?_) h
  rw [tmE_lt]
  exact enlt_asym hxy
theorem tmE_ok {x : En} (h : enok x = true) : tok (tmE x) := (enok_iff.1 h).1
theorem fired_up {a : List En} {h : List Tm} {mark : Int} (hs : SS a) (hh : thv h) (hp : h.Perm (a.map tmE)) (hl : a.length ≤ 4000) :
    ∃ V, tuntil h mark = ((a.filter (endsE mark)).map tmE, V, 0) ∧ V.length = (a.filter (fun x => !endsE mark x)).length := by
  have hlen : h.length = a.length := by rw [hp.length_eq, List.length_map]
  obtain ⟨U, V, h1, h2, h3, h4, h5, h6⟩ := until_plain mark hh (by omega)
  have h7 : sortL tlt t0 h = a.map tmE := sortL_eq tsto t0 hp (tmE_srt hs)
  rw [h7] at h3
  have hV := (tck_zero h2).1
  have hVm : ∀ y ∈ sortL tlt t0 V, ¬ y.e ≤ mark := fun y hy => by
    have hy' := (sortL_perm tsto t0 V).mem_iff.1 hy
    obtain ⟨k, hk, rfl⟩ := List.getElem_of_mem hy'
    have h0 : 0 < V.length := by omega
    have hf := heap_first tsto hV.2 k hk
    rw [getD_some (List.getElem?_eq_getElem hk), getD_some (List.getElem?_eq_getElem h0)] at hf
    have hm := h5 _ (List.getElem?_eq_getElem h0)
    unfold tlt at hf
    rw [decide_eq_false_iff_not] at hf
    omega
  have hU : U = (a.filter (endsE mark)).map tmE := by
    have e1 : (a.map tmE).filter (fun t => decide (t.e ≤ mark)) = (a.filter (endsE mark)).map tmE := by
      rw [List.filter_map]
      rfl
    rw [← e1, ← h3, List.filter_append, List.filter_eq_self.2 (fun x hx => by simpa using h4 x hx), List.filter_eq_nil_iff.2 (fun x hx => by simpa using hVm x hx), List.append_nil]
  refine ⟨V, by rw [h1, hU], ?_⟩
  have e2 : U.length = (a.filter (endsE mark)).length := by rw [hU, List.length_map]
  have key : ∀ l : List En, (l.filter (endsE mark)).length + (l.filter (fun x => !endsE mark x)).length = l.length := by
    intro l
    induction l with
    | nil => rfl
    | cons x l ih =>
      simp only [List.filter_cons]
      cases endsE mark x <;> simp <;> omega
  have e3 := key a
  omega
/-- What the invariant says of one entry, where all records are of the side 0. -/
theorem entry_sum {wk ws we : Int} {l : List Pt} {a : List En} {x : En} (h : InvA wk ws we l a) (hd : ∀ p ∈ l, p.d = 0) (hx : x ∈ a) (hok : enok x = true) : x.a = accP (inE x) l ∧ x.b = acc0 ∧ 0 < x.c1 := by
  have hr := ((inv_mem h x).1 hx).2
  have e1 : x.a = accP (inE x) l := by
    rw [hr.1]
    refine accP_congr (fun p hp => ?_)
    unfold sideE
    rw [hd p hp]
    simp
  have e2 : x.b = acc0 := by
    rw [hr.2]
    refine accP_none (fun p hp => ?_)
    unfold sideE
    rw [hd p hp]
    simp
  refine ⟨e1, e2, ?_⟩
  have h3 := (enok_iff.1 hok).2.2.2
  have h4 : x.c2 = 0 := by have h5 : x.b.c = acc0.c := by rw [e2]
                           exact h5
  omega
theorem push_more {a : List En} {h : List Tm} {j : Nat} {x : En} (hx : a[j]? = some x) (hh : thv h) (hp : h.Perm ((a.drop (j + 1)).map tmE)) (hok : enok x = true) (hl : a.length ≤ 4000) :
    tpush h (tmE x) = (pushL tlt t0 h (tmE x), 0) ∧ thv (pushL tlt t0 h (tmE x)) ∧ (pushL tlt t0 h (tmE x)).Perm ((a.drop j).map tmE) := by
  have hj := (List.getElem?_eq_some_iff.1 hx).1
  have hlen : h.length = a.length - (j + 1) := by rw [hp.length_eq, List.length_map, List.length_drop]
  refine ⟨tpush_ok hh (by omega) (tmE_ok hok), thv_push hh (tmE_ok hok), (pushL_perm tlt t0 h (tmE x)).trans ?_⟩
  have e : a.drop j = x :: a.drop (j + 1) := by
    rw [List.drop_eq_getElem_cons hj]
    rw [List.getElem?_eq_getElem hj] at hx
    injection hx with hx
    rw [hx]
  rw [e, List.map_cons]
  exact (hp.append_right [tmE x]).trans (List.perm_append_comm.trans (List.Perm.refl _))
end Go.Proofs.Ytbbdepeifdbbdaa
