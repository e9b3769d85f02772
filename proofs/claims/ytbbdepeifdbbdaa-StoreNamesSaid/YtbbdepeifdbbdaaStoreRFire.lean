/- The contract of the reference's Fire (chapter 17). Condition: stores of at most 2^40 entries. -/
import Derived.Test.YtbbdepeifdbbdaaStoreParted
import Derived.Test.YtbbdepeifdbbdaaStoreRCheck
import Derived.Test.YtbbdepeifdbbdaaStoreAdd
namespace Go.Proofs.Ytbbdepeifdbbdaa
open Go.RowKit

set_option maxHeartbeats 8000000 in
set_option maxRecDepth 100000 in
theorem parted_none (mark : Int) (w : World) :
    Calls Try.prog 73 #[.slice none 0 0, .int .i64 mark] w (PartedP [] mark w) := by
  obtain ⟨i0, hi0, hz0, hz1, hz2⟩ := info_parts en_info
  go_enter Try.func73, Try.ntmps73
  go_wp2_with fail
  go_loopw [6] (fun i wr => ∃ (m : Nat), i = .int .i64 0 ∧ wr = w.drewN m) (fun i _ => 0)
  case atStart => exact ⟨0, rfl, rfl⟩
  case round =>
    obtain ⟨m, rfl, rfl⟩ := hrel
    go_wp2_with fail
    go_region
    all_goals
      go_wp2_with fail
      go_ret2
      first
        | exact ⟨.slice (some ⟨w.heap.size, 0, none⟩) 0 0, .slice (some ⟨w.heap.size + 1, 0, none⟩) 0 0, rfl, (own_empty (heap_alloc_new (w.drewN (m + 1)) (.cells #[] 43)) (Nat.le_refl _)).alloc (.cells #[] 43), own_empty1 (w.drewN (m + 1)), below_new (below_new (below_drewN (Below.refl _ _) _) _) _⟩
        | exact ⟨.slice (some ⟨w.heap.size + 1, 0, none⟩) 0 0, .slice (some ⟨w.heap.size, 0, none⟩) 0 0, rfl, own_empty1 (w.drewN (m + 1)), (own_empty (heap_alloc_new (w.drewN (m + 1)) (.cells #[] 43)) (Nat.le_refl _)).alloc (.cells #[] 43), below_new (below_new (below_drewN (Below.refl _ _) _) _) _⟩
/-- In a sorted store the first ones that have ended are all that have. -/
theorem part_filter {mark : Int} : ∀ {l : List En}, SS l → l.take (partN l mark) = l.filter (endsE mark) ∧ l.drop (partN l mark) = l.filter (fun x => !endsE mark x) := by
  intro l
  induction l with
  | nil => intro _; simp [partN]
  | cons x l ih =>
    intro h
    unfold SS at h
    rw [List.pairwise_cons] at h
    obtain ⟨h1, h2⟩ := h
    obtain ⟨i1, i2⟩ := ih h2
    unfold partN at i1 i2 ⊢
    by_cases hx : endsE mark x = true
    · simp [List.takeWhile, hx, i1, i2]
    · have hall : ∀ y ∈ l, endsE mark y = false := fun y hy => by
        have h3 := h1 y hy
        simp [enlt] at h3
        simp [endsE] at hx ⊢
        omega
      have e1 : l.filter (endsE mark) = [] := List.filter_eq_nil_iff.2 (fun y hy => by simp [hall y hy])
      have e2 : l.filter (fun y => !endsE mark y) = l := List.filter_eq_self.2 (fun y hy => by simp [hall y hy])
      simp [List.takeWhile, hx, e1, e2]
def RFireP (l : List En) (mark : Int) (w : World) (r : Ending) (w' : World) : Prop :=
  ∃ v1 v2, r = .returned (.tuple #[v1, v2, .int .i64 (fireE l mark).2.2]) ∧ Own enenc 11 w' w.heap.size 43 v1 (fireE l mark).1 ∧ Own enenc 11 w' w.heap.size 43 v2 (fireE l mark).2.1 ∧ Below w.heap.size w w'
/-- The row of an argument: none, or one that lies below. -/
def RowAt (A : Option Addr) (n c B : Nat) : Prop := (A = none ∧ n = 0 ∧ c = 0) ∨ ∃ b off, A = some ⟨b, off, none⟩ ∧ b < B ∧ n ≤ c
theorem parted_all (A : Option Addr) (c n : Nat) (l : List En) (mark : Int) (w : World) (hln : l.length = n) (hn : n ≤ 1099511627776) (hA : RowAt A n c w.heap.size) (hr : Rd enenc 11 w w.heap.size A l) :
    Calls Try.prog 73 #[.slice A n c, .int .i64 mark] w (PartedP l mark w) := by
  rcases hA with ⟨rfl, h0, rfl⟩ | ⟨b, off, rfl, hb, hc⟩
  · subst h0
    obtain rfl := List.eq_nil_of_length_eq_zero hln
    exact parted_none mark w
  · exact parted_any b off c n l mark w hln hn hc hb hr
set_option maxHeartbeats 8000000 in
set_option maxRecDepth 100000 in
theorem rfire_any (A : Option Addr) (c n : Nat) (l : List En) (mark : Int) (w : World) (hln : l.length = n) (hn : n ≤ 1099511627776) (hA : RowAt A n c w.heap.size) (hr : Rd enenc 11 w w.heap.size A l) :
    Calls Try.prog 42 #[.slice A n c, .int .i64 mark] w (RFireP l mark w) := by
  obtain ⟨E, hE0⟩ : ∃ E, E = enchk l := ⟨_, rfl⟩
  have hck := fun W (h : Rd enenc 11 W W.heap.size A l) => rstorecheck_any A c n l W hln hn h
  rw [← hE0] at hck
  have HCK := Lib.hid hck
  by_cases h1 : E = 0
  · have hSS : SS l := (enchk_zero.1 (hE0.symm.trans h1)).2.2
    obtain ⟨p1, p2⟩ := part_filter (mark := mark) hSS
    have hres : fireE l mark = (l.take (partN l mark), l.drop (partN l mark), 0) := by unfold fireE; rw [← hE0, if_neg (by simp [h1]), p1, p2]
    have hpt := fun W (hb : w.heap.size ≤ W.heap.size) (h : Rd enenc 11 W W.heap.size A l) => parted_all A c n l mark W hln hn (by rcases hA with h | ⟨b, off, h1, h2, h3⟩; exact .inl h; exact .inr ⟨b, off, h1, by omega, h3⟩) h
    have HRES := Lib.hid hres; have HPT := Lib.hid hpt
    subst h1
    clear hres hpt hck hln hE0 p1 p2
    go_enter Try.func42, Try.ntmps42
    go_wp2_with fail
    go_at_call 44
    refine (HCK.out _ hr).mono ?_
    rintro r w1 ⟨rfl, hb1⟩
    go_wp2_with fail
    go_at_call 73
    refine (HPT.out _ hb1.size (rd_grown hr hb1)).mono ?_
    rintro r w2 ⟨v1, v2, rfl, o1, o2, hb2⟩
    go_wp2_with fail
    go_ret3
    exact ⟨v1, v2, by rw [HRES.out]; rfl, by rw [HRES.out]; exact o1.mono hb1.size, by rw [HRES.out]; exact o2.mono hb1.size, below_then hb1 hb2⟩
  · have hres : fireE l mark = ([], [], E) := by unfold fireE; rw [← hE0, if_pos h1]
    have HRES := Lib.hid hres
    have d0 : (E != 0) = true := by simp [h1]
    clear hres hck hln hE0 h1
    go_enter Try.func42, Try.ntmps42
    go_wp2_with fail
    go_at_call 44
    refine (HCK.out _ hr).mono ?_
    rintro r w1 ⟨rfl, hb1⟩
    go_wp2
    go_ret3
    exact ⟨.slice none 0 0, .slice none 0 0, by rw [HRES.out]; rfl, by rw [HRES.out]; exact Own.nil _ _ _, by rw [HRES.out]; exact Own.nil _ _ _, hb1⟩
end Go.Proofs.Ytbbdepeifdbbdaa
