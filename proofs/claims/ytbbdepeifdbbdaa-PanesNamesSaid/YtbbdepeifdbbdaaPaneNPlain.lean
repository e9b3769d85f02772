/- Chapter 19's limits in plain terms: what Size, Parts and Values return at the numbers of PanesNames; a made slice of records. No condition. -/
import Derived.Test.YtbbdepeifdbbdaaPaneTells
import Derived.Laws.MakeOwn
namespace Go.Proofs.Ytbbdepeifdbbdaa
open Go.RowKit

def rz : Pt := ⟨0, 0, 0, 0⟩
theorem rd_madeR (W : World) (t : TypeId) (n : Nat) : Rd rcenc 3 (W.alloc (.cells (madeCells #[.int .i64 0, .int .i64 0, .int .i64 0] (n * 3)) t)) (W.heap.size + 1) (some ⟨W.heap.size, 0, none⟩) (List.replicate n rz) := fun _ => by
  refine ⟨W.heap.size, 0, rfl, by omega, fun k x hx j u hu => ?_⟩
  have hk : k < n := by
    have := (List.getElem?_eq_some_iff.1 hx).1
    simpa using this
  have hx0 : x = rz := by
    rw [List.getElem?_replicate, if_pos hk] at hx
    exact (Option.some.inj hx).symm
  subst hx0
  have hj : j < 3 := by
    have := (List.getElem?_eq_some_iff.1 hu).1
    simpa [rcenc] using this
  have hu0 : u = .int .i64 0 := by
    have h11 := List.mem_of_getElem? hu
    simpa [rcenc, rz] using h11
  subst hu0
  rw [World.cell?_alloc_at _ _ _ _ rfl]
  have hlt : 0 + k * 3 + j < n * 3 := by
    have := Nat.mul_le_mul_right 3 (show k + 1 ≤ n by omega)
    rw [Nat.add_mul] at this
    omega
  have hz : ∀ i : Nat, i < 3 → (#[.int .i64 0, .int .i64 0, .int .i64 0] : Array Value)[i]! = .int .i64 0 := by
    intro i hi
    rcases (show i = 0 ∨ i = 1 ∨ i = 2 by omega) with rfl | rfl | rfl <;> rfl
  unfold madeCells
  rw [Array.getElem?_map, Array.getElem?_range, if_pos hlt]
  show some _ = some _
  congr 1
  exact hz _ (Nat.mod_lt _ (by decide))
theorem make_recs (z : Int) (n : Nat) (hz : z = (n : Int)) (hn : n ≤ 1000) : ∃ M : Array Value, (∀ W : World, (Instr.makeSlice 24 (.int .i64 z) (.int .i64 z)).run Try.prog W = .ok (.slice (some ⟨W.heap.size, 0, none⟩) n n) (W.alloc (.cells M 31))) ∧
    ∀ W : World, Rd rcenc 3 (W.alloc (.cells M 31)) (W.heap.size + 1) (some ⟨W.heap.size, 0, none⟩) (List.replicate n rz) := by
  obtain ⟨i0, hi0, hz0, hz1, hz2⟩ := info_parts rec_info
  refine ⟨_, fun W => ?_, fun W => rd_madeR W _ n⟩
  have hmk := run_make (P := Try.prog) W 24 31 i0 (.agg #[.int .i64 0, .int .i64 0, .int .i64 0]) Try.underlying24 hi0 hz0 .i64 .i64 z z (by omega) (by omega) (by rw [hz2]; omega) (by omega)
  rw [hz1] at hmk
  subst hz
  exact hmk
theorem accP_rep (q : Pt → Bool) (p : Pt) (n : Nat) : accP q (List.replicate n p) = if q p = true then afold (List.replicate n p.v) else acc0 := by
  unfold accP
  by_cases h : q p = true
  · rw [if_pos h, List.filter_eq_self.2 (fun x hx => by rw [List.eq_of_mem_replicate hx]; exact h), List.map_replicate]
  · rw [if_neg h, List.filter_eq_nil_iff.2 (fun x hx => by rw [List.eq_of_mem_replicate hx]; exact h)]
    rfl
def nv3 : List En := [⟨0, -8, 2, 240, 0, 0, 0, 0, 0, 0, 0⟩, ⟨0, -4, 6, 240, 0, 0, 0, 0, 0, 0, 0⟩, ⟨0, 0, 10, 240, 0, 0, 0, 0, 0, 0, 0⟩]
theorem win0 : wspans 2 10 4 0 = [(-8, 2), (-4, 6), (0, 10)] := by decide +kernel
theorem fold240 : afold (List.replicate 240 0) = ⟨240, 0, 0, 0⟩ := by kernel_rfl
theorem inv240 : InvA 2 10 4 (List.replicate 240 rz) nv3 := by
  unfold InvA
  rw [if_neg (by decide)]
  refine ⟨by simp [SS, nv3, enlt], fun x => ?_⟩
  have hw : ∀ k sp, winN 2 10 4 (List.replicate 240 rz) k sp ↔ k = 0 ∧ sp ∈ [((-8 : Int), (2 : Int)), (-4, 6), (0, 10)] := fun k sp => by
    unfold winN
    rw [← win0]
    constructor
    · rintro ⟨r, hr, h1, h2⟩
      rw [List.eq_of_mem_replicate hr] at h1 h2
      exact ⟨h1.symm, h2⟩
    · rintro ⟨h1, h2⟩
      exact ⟨rz, by rw [List.mem_replicate]; exact ⟨by decide, rfl⟩, h1.symm, h2⟩
  rw [hw]
  unfold Rig
  rw [accP_rep, accP_rep, show rz.v = 0 from rfl, fold240]
  obtain ⟨k, s, e, c1, s1, m1, x1, c2, s2, m2, x2⟩ := x
  simp only [nv3, List.mem_cons, List.not_mem_nil, or_false, En.mk.injEq, Prod.mk.injEq, sideE, inE, rz, En.a, En.b, Bool.and_eq_true, decide_eq_true_eq]
  constructor
  · rintro (⟨rfl, rfl, rfl, rfl, rfl, rfl, rfl, rfl, rfl, rfl, rfl⟩ | ⟨rfl, rfl, rfl, rfl, rfl, rfl, rfl, rfl, rfl, rfl, rfl⟩ | ⟨rfl, rfl, rfl, rfl, rfl, rfl, rfl, rfl, rfl, rfl, rfl⟩) <;> simp [acc0]
  · rintro ⟨⟨rfl, ⟨rfl, rfl⟩ | ⟨rfl, rfl⟩ | ⟨rfl, rfl⟩⟩, h1, h2⟩ <;> simp [acc0] at h1 h2 <;> simp [h1, h2]
theorem nn_o : pvals 2 10 4 (List.replicate 240 rz) = (nv3, 0) := by
  have hP : ∀ p ∈ List.replicate 240 rz, okP p := fun p hp => by
    rw [List.eq_of_mem_replicate hp]
    exact ⟨by decide, .inl rfl⟩
  have hw : wok 2 10 4 := by unfold wok; decide
  obtain ⟨a, a1, a2, -⟩ := all_inv hw 240 (List.replicate 240 rz) List.length_replicate (by omega) hP
  have ha := inv_unique (by decide) (List.Perm.refl _) a2 inv240
  subst ha
  unfold pvals
  rw [if_neg (by decide), if_neg (by rw [List.length_replicate]; omega), if_pos (by rw [List.all_eq_true]; intro p hp; rw [List.eq_of_mem_replicate hp]; decide), a1]
  rfl
theorem nn_l : pvals 3 4 0 (List.replicate 241 rz) = ([], 2) := by
  unfold pvals
  rw [if_pos (by decide), show slchk 3 4 0 = 2 by decide]
theorem nn_m : pvals 2 10 4 (List.replicate 241 rz) = ([], 4) := by
  unfold pvals
  rw [if_neg (by decide), if_pos (by rw [List.length_replicate]; omega)]
theorem nn_p : pvals 2 10 4 [⟨0, 1099511627777, 0, 0⟩] = ([], 16) := by
  unfold pvals
  rw [if_neg (by decide), if_neg (by decide), if_neg (by decide)]
def nfst : List En := [⟨0, -1099511627784, -1099511627774, 1, 0, 0, 0, 0, 0, 0, 0⟩, ⟨0, -1099511627780, -1099511627770, 1, 0, 0, 0, 0, 0, 0, 0⟩, ⟨0, -1099511627776, -1099511627766, 1, 0, 0, 0, 0, 0, 0, 0⟩]
theorem nn_q : pvals 2 10 4 [⟨0, -1099511627776, 0, 0⟩] = (nfst, 0) := by
  unfold pvals
  rw [if_neg (by decide), if_neg (by decide), if_pos (by decide), allE_cons (b := nfst) (addE_lit val_nil (by unfold wok; decide) (.inl rfl) (by decide) (by decide +kernel))]
  rfl
theorem nz_a : psize 0 1 = (0, 2) := by decide +kernel
theorem nz_b : psize 17 1 = (0, 2) := by decide +kernel
theorem nz_c : psize 3 4 = (0, 2) := by decide +kernel
theorem nz_d : psize 1073741824 1073741823 = (1, 0) := by decide +kernel
theorem np_e : pparts 0 0 0 0 0 = ([], 8) := by decide +kernel
theorem np_f : pparts 1 4 0 0 4 = ([], 2) := by decide +kernel
theorem np_g : pparts 2 10 4 2 12 = ([], 2) := by decide +kernel
theorem np_h : pparts 2 10 4 4 13 = ([], 2) := by decide +kernel
theorem np_i : pparts 2 10 4 1099511627780 1099511627790 = ([], 2) := by decide +kernel
theorem np_j : pparts 2 4001 4000 0 4001 = ([], 4) := by decide +kernel
theorem np_k : pparts 2 4000 3999 3999 7999 = (partsL 3999 1 4000, 0) := by
  unfold pparts
  rw [if_neg (by decide), if_neg (by decide), show Int.gcd 4000 3999 = 1 by decide +kernel, if_neg (by decide)]
  rfl
end Go.Proofs.Ytbbdepeifdbbdaa
