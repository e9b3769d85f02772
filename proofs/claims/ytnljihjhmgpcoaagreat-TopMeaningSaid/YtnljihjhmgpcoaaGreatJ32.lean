/- Lemmas and contracts for the statement, joined into one text: EvMake, NodePart. The conditions of each stand at its head. -/
import Derived.Test.YtnljihjhmgpcoaaGreatJ31
import Derived.Laws.MakeOwn
namespace Go.Proofs.YtnljihjhmgpcoaaGreat
open Go Go.RowKit
theorem made_list {α : Type} {enc : α → List Value} {sz : Nat} (henc : ∀ x, (enc x).length = sz) (x0 : α) (zs : Array Value) (hz : zs.toList = enc x0) (h0 : 0 < sz) (n : Nat) : (madeCells zs (n * sz)).toList = (List.replicate n x0).flatMap enc := by
 have hs : zs.size = sz := by rw [← henc x0, ← hz]; simp
 apply List.ext_getElem?
 intro k
 by_cases hk : k < n * sz
 ·have hq : k / sz < n := Nat.div_lt_of_lt_mul (by rw [Nat.mul_comm]; exact hk)
  have hr : k % sz < sz := Nat.mod_lt _ h0
  have hx : (enc x0)[k % sz]? = some (zs[k % sz]'(by omega)) := by
   rw [← hz]; simp [hs, hr]
  have := flat_at henc (List.replicate n x0) (k / sz) (k % sz) x0 _ (by simp [hq]) hx
  have e : k / sz * sz + k % sz = k := by rw [Nat.mul_comm]; exact Nat.div_add_mod k sz
  rw [e] at this
  rw [this]
  unfold madeCells
  simp only [Array.getElem?_toList, Array.getElem?_map, Array.getElem?_range, if_pos hk, Option.map_some, hs]
  congr 1
  rw [getElem!_pos zs (k % sz) (by omega)]
 ·rw [List.getElem?_eq_none (by simp [size_madeCells]; omega), List.getElem?_eq_none (by rw [flat_length henc, List.length_replicate]; omega)]
theorem make_run {P : Program} {t e : TypeId} {z : Value} {size bytes : Nat} (h : (P.info? e).map (fun i => (i.zero, i.size, i.bytes)) = some (some z, size, bytes)) (ht : P.underlying t = some (.slice e))
  {α : Type} {enc : α → List Value} (henc : ∀ x, (enc x).length = size) (x0 : α) (hz : z.cells.toList = enc x0) (h0 : 0 < size) (hb : bytes ≤ 128) (n : Nat) (hn : n ≤ 1000) (W : World) :
  (Instr.makeSlice t (.int .i64 n) (.int .i64 n)).run P W = .ok (.slice (some ⟨W.heap.size, 0, none⟩) n n) (W.alloc (.cells ((List.replicate n x0).flatMap enc).toArray e)) := by
 obtain ⟨i, hi, hz', hsz, hby⟩ := info_parts h
 have hbn : (i.bytes : Int) * (n : Int) ≤ 281474976710656 := by
  have h1 : i.bytes * n ≤ 128 * 1000 := Nat.mul_le_mul (by omega) hn
  have h2 : ((i.bytes * n : Nat) : Int) ≤ 281474976710656 := by omega
  rwa [Int.natCast_mul] at h2
 have hmk := run_make (P := P) W t e i z ht hi hz' .i64 .i64 n n (by omega) (by omega) hbn (by omega)
 rw [hsz] at hmk
 simp only [Int.toNat_natCast] at hmk
 rw [hmk, ← made_list henc x0 z.cells hz h0 n]
theorem make_own {α : Type} {enc : α → List Value} {size : Nat} (henc : ∀ x, (enc x).length = size) (x0 : α) (e : TypeId) (n : Nat) (hn : n ≤ 1000) (base : Nat) (W : World) (hb : base ≤ W.heap.size) :
  Own enc size (W.alloc (.cells ((List.replicate n x0).flatMap enc).toArray e)) base e (.slice (some ⟨W.heap.size, 0, none⟩) n n) (List.replicate n x0) := by
 have := Own.made henc W base e (List.replicate n x0) W.heap.size rfl hb (by rw [List.length_replicate]; unfold maxLen; omega)
 rwa [List.length_replicate] at this
end Go.Proofs.YtnljihjhmgpcoaaGreat
namespace Go.Proofs.YtnljihjhmgpcoaaGreat
open Go.RowKit Go.ChangeShapes Go.WideShapes Go.ChangeAt Go.Deep
def PartP (e : Ex) (w : World) (r : Ending) (w' : World) : Prop := ∃ v, r = .returned (.tuple #[v, .int .i64 0]) ∧ Own nenc 5 w' w.heap.size 133 v (e.flat 0) ∧ Below w.heap.size w w'
end Go.Proofs.YtnljihjhmgpcoaaGreat
