/- The contract of store.Fire (chapter 17). Condition: lists of at most 2^40 entries. -/
import Derived.Test.YtbbdepeifdbbdaaKitF
namespace Go.Proofs.Ytbbdepeifdbbdaa
open Go.RowKit

/-- An append to one of two rows that lie apart. -/
theorem two_app {α : Type} {enc : α → List Value} {sz : Nat} {e : TypeId} {w wr W0 w7 : World} {u v v' : Value} {bef beh : List α} {o : Obj} (hb : Below w.heap.size w wr) (hbN : Below wr.heap.size wr W0) (hu : Own enc sz wr w.heap.size e u bef) (hv : Own enc sz wr w.heap.size e v beh)
    (hap : ∀ g, u.ownBlock = some g → v.ownBlock ≠ some g) (hgr : (W0.alloc o).grownBy w7 u.ownBlock) (hsf : v'.ownBlock = u.ownBlock ∨ ∀ k, v'.ownBlock = some k → (W0.alloc o).heap.size ≤ k) :
    Own enc sz w7 w.heap.size e v beh ∧ (∀ g, v'.ownBlock = some g → v.ownBlock ≠ some g) ∧ Below w.heap.size w w7 := by
  refine ⟨((hv.below hbN).alloc o).grown hgr ?_, fun g hg hvg => ?_, ?_⟩
  · cases hvb : v.ownBlock with
    | none => exact .inl rfl
    | some g => exact .inr (fun e => hap g e.symm hvb)
  · rcases hsf with h | h
    · exact hap g (h ▸ hg) hvg
    · have h1 := h g hg
      have h2 := (World.ownsRow.lt hv g hvg).2
      have h3 := hbN.size
      rw [World.size_alloc] at h1
      omega
  · have h1 := hb.trans (hbN.mono hb.size)
    exact (h1.alloc h1.size o).grown hgr (by rw [World.size_alloc]; have := h1.size; omega) (fun k hk => by have := (World.ownsRow.lt hu k hk).1; omega)
theorem en_new (w : World) (x : En) (t : TypeId) (g : Nat) (hg : g = w.heap.size) : ∀ j u, ([x].flatMap enenc)[j]? = some u → (w.alloc (.cells (enenc x).toArray t)).cell? ((⟨g, 0, none⟩ : Addr).add j) = some u := by
  subst hg
  intro j u hj
  rw [Addr.add_lit, World.cell?_alloc_at _ _ _ _ rfl]
  simpa using hj
def endsE (mark : Int) (x : En) : Bool := decide (x.e ≤ mark)
/-- What is fired of a store, and what stays. -/
noncomputable def fireE (l : List En) (mark : Int) : List En × List En × Int := if enchk l ≠ 0 then ([], [], enchk l) else (l.filter (endsE mark), l.filter (fun x => !endsE mark x), 0)
theorem filt_snoc {α : Type} (p : α → Bool) {l : List α} {k : Nat} {x : α} (h : l[k]? = some x) : (l.take (k + 1)).filter p = (l.take k).filter p ++ if p x = true then [x] else [] := by
  rw [List.take_add_one, h]
  simp
  split <;> simp_all
def FireP (l : List En) (mark : Int) (w : World) (r : Ending) (w' : World) : Prop :=
  ∃ v1 v2, r = .returned (.tuple #[v1, v2, .int .i64 (fireE l mark).2.2]) ∧ Own enenc 11 w' w.heap.size 43 v1 (fireE l mark).1 ∧ Own enenc 11 w' w.heap.size 43 v2 (fireE l mark).2.1 ∧ (∀ g, v1.ownBlock = some g → v2.ownBlock ≠ some g) ∧ Below w.heap.size w w'
set_option maxHeartbeats 8000000 in
set_option maxRecDepth 100000 in
theorem fire_any (A : Option Addr) (c n : Nat) (l : List En) (mark : Int) (w : World) (hln : l.length = n) (hn : n ≤ 1099511627776) (hr : Rd enenc 11 w w.heap.size A l) :
    Calls Try.prog 22 #[.slice A n c, .int .i64 mark] w (FireP l mark w) := by
  obtain ⟨i0, hi0, hz0, hz1, hz2⟩ := info_parts en_info
  obtain ⟨E, hE0⟩ : ∃ E, E = enchk l := ⟨_, rfl⟩
  have hck := fun W (h : Rd enenc 11 W W.heap.size A l) => storecheck_any A c n l W hln hn h
  rw [← hE0] at hck
  have HCK := Lib.hid hck; have HLN := Lib.hid hln
  by_cases h1 : E = 0
  · have hres : fireE l mark = (l.filter (endsE mark), l.filter (fun x => !endsE mark x), 0) := by unfold fireE; rw [← hE0, if_neg (by simp [h1])]
    have HRES := Lib.hid hres
    subst h1
    clear hres hck hln hE0
    go_enter Try.func22, Try.ntmps22
    go_wp2_with fail
    go_at_call 43
    refine (HCK.out _ hr).mono ?_
    rintro r w1 ⟨rfl, hb1⟩
    go_wp2_with fail
    go_loopw [4, 5, 17] (fun u v i wr => ∃ (k : Nat), i = .int .i64 k ∧ k ≤ n ∧ Own enenc 11 wr w.heap.size 43 u ((l.take k).filter (endsE mark)) ∧ Own enenc 11 wr w.heap.size 43 v ((l.take k).filter (fun x => !endsE mark x)) ∧ (∀ g, u.ownBlock = some g → v.ownBlock ≠ some g) ∧ Below w.heap.size w wr) (fun _ _ i _ => n - (intOf i).toNat)
    case atStart => exact ⟨0, rfl, Nat.zero_le _, Own.nil _ _ _, Own.nil _ _ _, (fun g h => by cases h), hb1⟩
    case round =>
      obtain ⟨k, rfl, hk, hu, hv, hap, hb⟩ := hrel
      have HAP := Lib.hid hap
      clear hap
      have hlu : ((l.take k).filter (endsE mark)).length ≤ k := Nat.le_trans (List.length_filter_le _ _) (by simp; omega)
      have hlv : ((l.take k).filter (fun x => !endsE mark x)).length ≤ k := Nat.le_trans (List.length_filter_le _ _) (by simp; omega)
      by_cases hlt : k < n
      · obtain ⟨x, hx⟩ : ∃ x, l[k]? = some x := ⟨_, List.getElem?_eq_getElem (by rw [HLN.out]; exact hlt)⟩
        have hs1 := filt_snoc (endsE mark) hx
        have hs2 := filt_snoc (fun x => !endsE mark x) hx
        obtain ⟨b, off, rfl, hbb, f0, f1, f2, f3, f4, f5, f6, f7, f8, f9, f10⟩ := en_cells (rd_grown hr hb) hx
        have d1 : decide ((k : Int) < (n : Int)) = true := by simp; omega
        have d1' : decide (k < n) = true := by simp [hlt]
        have k1 : (0 : Int) ≤ (k : Int) := by omega
        have k2 : (k : Int) < (n : Int) := by omega
        have e1 : IntKind.i64.wrap ((k : Int) + 1) = (k : Int) + 1 := IntWalk.i64_in _ (by omega)
        have hne : b ≠ wr.heap.size := by omega
        by_cases hm : x.e ≤ mark
        · have he : endsE mark x = true := by simp [endsE, hm]
          have dm : decide (x.e ≤ mark) = true := by simp [hm]
          rw [he] at hs1
          simp only [he, Bool.not_true, Bool.false_eq_true, if_false, List.append_nil] at hs2
          simp only [if_true] at hs1
          have HS1 := Lib.hid hs1; have HS2 := Lib.hid hs2
          clear hs1 hs2 he hx hm
          go_wp2_with (at_builtin; refine wpList_append_fs rfl _ _ 27 rfl w.heap.size 43 i0 (.agg #[.int .i64 0, .int .i64 0, .int .i64 0, .int .i64 0, .int .i64 0, .int .i64 0, .int .i64 0, .int .i64 0, .int .i64 0, .int .i64 0, .int .i64 0]) 11 88 Try.underlying27 hi0 hz0 hz1 hz2 rfl (by decide) enenc enenc_len _ _ x rfl ((hu.alloc (.cells (enenc x).toArray 43)).alloc (.cells (enenc x).toArray 43)) ⟨wr.heap.size + 1, 0, none⟩ 1 rfl (en_new (wr.alloc (.cells (enenc x).toArray 43)) x 43 (wr.heap.size + 1) (by simp)) (enenc_one [x]) (by unfold maxLen; omega) (by omega) (by have := hb.size; simp; omega) ?_; intro v' w7 own7 hgr7 hsf)
          obtain ⟨oh7, ap7, hb7⟩ := two_app hb (below_new (Below.refl _ _) (.cells (enenc x).toArray 43)) hu hv HAP.out hgr7 hsf
          rw [← HS1.out] at own7
          rw [← HS2.out] at oh7
          have HAP7 := Lib.hid ap7
          clear hgr7 hsf ap7 hu hv HAP
          go_wp2
          go_roundw
          case rel => exact ⟨k + 1, by go_num, by omega, own7, oh7, HAP7.out, hb7⟩
          case measure => simp [intOf]; omega
        · have he : endsE mark x = false := by simp [endsE]; omega
          have dm : decide (x.e ≤ mark) = false := by simp; omega
          simp only [he, Bool.not_false, if_true] at hs2
          simp only [he, Bool.false_eq_true, if_false, List.append_nil] at hs1
          have HS1 := Lib.hid hs1; have HS2 := Lib.hid hs2
          clear hs1 hs2 he hx hm
          go_wp2_with (at_builtin; refine wpList_append_fs rfl _ _ 27 rfl w.heap.size 43 i0 (.agg #[.int .i64 0, .int .i64 0, .int .i64 0, .int .i64 0, .int .i64 0, .int .i64 0, .int .i64 0, .int .i64 0, .int .i64 0, .int .i64 0, .int .i64 0]) 11 88 Try.underlying27 hi0 hz0 hz1 hz2 rfl (by decide) enenc enenc_len _ _ x rfl ((hv.alloc (.cells (enenc x).toArray 43)).alloc (.cells (enenc x).toArray 43)) ⟨wr.heap.size + 1, 0, none⟩ 1 rfl (en_new (wr.alloc (.cells (enenc x).toArray 43)) x 43 (wr.heap.size + 1) (by simp)) (enenc_one [x]) (by unfold maxLen; omega) (by omega) (by have := hb.size; simp; omega) ?_; intro v' w7 own7 hgr7 hsf)
          obtain ⟨oh7, ap7, hb7⟩ := two_app hb (below_new (Below.refl _ _) (.cells (enenc x).toArray 43)) hv hu (fun g h1 h2 => HAP.out g h2 h1) hgr7 hsf
          rw [← HS2.out] at own7
          rw [← HS1.out] at oh7
          have HAP7 := Lib.hid ap7
          clear hgr7 hsf ap7 hu hv HAP
          go_wp2
          go_roundw
          case rel => exact ⟨k + 1, by go_num, by omega, oh7, own7, fun g h1 h2 => HAP7.out g h2 h1, hb7⟩
          case measure => simp [intOf]; omega
      · obtain rfl : k = n := by omega
        have d1 : decide ((k : Int) < (k : Int)) = false := by simp
        have d1' : decide (k < k) = false := by simp
        rw [List.take_of_length_le (by rw [HLN.out]; exact Nat.le_refl _)] at hu hv
        clear hlt
        go_wp2
        go_ret3
        exact ⟨_, _, by rw [HRES.out]; rfl, by rw [HRES.out]; exact hu, by rw [HRES.out]; exact hv, HAP.out, hb⟩
  · have hres : fireE l mark = ([], [], E) := by unfold fireE; rw [← hE0, if_pos h1]
    have HRES := Lib.hid hres
    have d0 : (E != 0) = true := by simp [h1]
    clear hres hck hln hE0 h1
    go_enter Try.func22, Try.ntmps22
    go_wp2_with fail
    go_at_call 43
    refine (HCK.out _ hr).mono ?_
    rintro r w1 ⟨rfl, hb1⟩
    go_wp2
    go_ret3
    exact ⟨.slice none 0 0, .slice none 0 0, by rw [HRES.out]; rfl, by rw [HRES.out]; exact Own.nil _ _ _, by rw [HRES.out]; exact Own.nil _ _ _, (fun g h => by cases h), hb1⟩
end Go.Proofs.Ytbbdepeifdbbdaa
