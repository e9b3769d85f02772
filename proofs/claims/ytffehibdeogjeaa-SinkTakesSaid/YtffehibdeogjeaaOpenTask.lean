/- Arguments of the laws, opened: a struct by value of which some fields are slices of flat elements. No condition. -/
import Derived.Test.YtffehibdeogjeaaKitA
import Derived.Test.YtffehibdeogjeaaTaskPlain
namespace Go.Proofs.Ytffehibdeogjeaa
open Go.RowKit Go.ChangeShapes Go.WideShapes Go.ChangeAt Go.Deep

section
variable {H : Type} {enc : TypeId × Value → H} {P : Program} {w : World} {base : Nat} {spare : Nat → Bool} {held : Bool}
theorem struct_field {t : TypeId} {fs : Array Field} {f : Field} {fuel : Nat} {cs : List Value} {x : DataW H × List MemPlace} (i : Nat) (hu : P.underlying t = some (.struct fs)) (hf : fs[i]? = some f)
    (h : DataW.trod enc P w base spare held fuel t cs = some x) : ∃ m y, DataW.trod enc P w base spare held m f.type ((cs.drop f.offset).take (P.cellsOf f.type)) = some y := by
  obtain ⟨xs, m, _, _, _, hlen, hx⟩ := DataW.trod_struct hu h
  have h1 := hx i f hf
  have h2 : i < xs.length := by
    have := (Array.getElem?_eq_some_iff.1 hf).1
    omega
  rw [List.getElem?_eq_getElem h2] at h1
  exact ⟨m, _, h1⟩
/-- A slice of flat elements, that is a field: its one cell reads as a list. -/
theorem rows_field {α : Type} {n : Nat} {t e : TypeId} {fuel : Nat} {cs : List Value} {x : DataW H × List MemPlace} (ks : List (Option IntKind)) (enc' : α → List Value) (ok : α → Prop)
    (hu : P.underlying t = some (.slice e)) (hC : P.cellsOf e = ks.length) (hL : leaves P n e = some (ks.zipIdx.map fun y => (y.2, y.1)))
    (hdec : ∀ vs, FitsL ks vs → ∃ x, vs = enc' x ∧ ok x) (hpos : 0 < ks.length)
    (hf : DataW.trod enc P w base spare held fuel t cs = some x) :
    ∃ (A : Option Addr) (c : Nat) (l : List α), cs = [.slice A l.length c] ∧ l.length ≤ c ∧ c ≤ maxLen ∧ (∀ x ∈ l, ok x) ∧ Rd enc' ks.length w w.heap.size A l ∧ (A = none → c = 0) := by
  rcases open_slice hu hf with ⟨hcs, _⟩ | ⟨a, len, cap, m, n', D, Pl, hcs, hb, hlc, hcm, hmm, _, hel⟩
  · exact ⟨none, 0, [], hcs, Nat.le_refl _, by simp [maxLen], fun x hx => (by cases hx), Rd.nil, fun _ => rfl⟩
  · have hlm : len ≤ m := by rw [hmm]; split <;> omega
    obtain ⟨l, hll, hP⟩ := list_of (fun (i : Nat) (x : α) => ok x ∧ w.cells? base (a.add (i * ks.length)) ks.length = some (enc' x)) (List.range len) (fun i hi => by
      have hi' := List.mem_range.1 hi
      obtain ⟨cs', hc, ht⟩ := hel i (by omega)
      rw [hC] at hc
      obtain ⟨_, hcl, _⟩ := World.cells?_some hc
      obtain ⟨x, hx, hok⟩ := hdec cs' (fits_cells hL hcl ht)
      exact ⟨x, hok, by rw [hc, hx]⟩)
    simp only [List.length_range] at hll
    subst hll
    refine ⟨some a, cap, l, hcs, hlc, hcm, fun x hx => ?_, fun hn => ?_, fun h => nomatch h⟩
    · obtain ⟨i, hi, rfl⟩ := List.getElem_of_mem hx
      exact (hP i i _ (by simp [hi]) (List.getElem?_eq_getElem hi)).1
    · have hl0 : 0 < l.length := List.length_pos_iff.2 hn
      have h0 := (hP 0 0 l[0] (by simp [hl0]) (List.getElem?_eq_getElem hl0)).2
      obtain ⟨_, hcl0, hat0⟩ := World.cells?_some h0
      have hc0 := hat0 0 hpos
      rw [List.getElem?_eq_getElem (by omega)] at hc0
      have hz : a.add (0 * ks.length) = a := by simp [Addr.add]
      rw [hz] at hc0
      obtain ⟨b, off, sp⟩ := a
      have hadd : (⟨b, off, sp⟩ : Addr).add 0 = ⟨b, off, sp⟩ := by simp [Addr.add]
      rw [hadd] at hc0
      have hsp : sp = none := by
        cases sp with
        | none => rfl
        | some s => simp [World.cell?] at hc0; split at hc0 <;> simp_all
      subst hsp
      have hbl : b < w.heap.size := by
        rcases Nat.lt_or_ge b w.heap.size with h1 | h1
        · exact h1
        · simp [World.cell?, Array.getElem?_eq_none h1] at hc0
      refine ⟨b, off, rfl, hbl, fun k x hx j u hu => ?_⟩
      obtain ⟨hk, _⟩ := List.getElem?_eq_some_iff.1 hx
      obtain ⟨_, hcl, hat⟩ := World.cells?_some (hP k k x (by simp [hk]) hx).2
      have hj : j < ks.length := by
        have := (List.getElem?_eq_some_iff.1 hu).1
        omega
      have := hat j hj
      rw [hu] at this
      rw [← this]
      congr 1
      unfold Addr.add
      split <;> split <;> simp_all [Nat.add_assoc]
theorem sdenc_dec (vs : List Value) (h : FitsL [some .i64, some .u8, some .i64, some .i64, some .i64, some .i64, some .i64, some .i64, some .i64, some .i64, some .i64] vs) : ∃ x, vs = sdenc x ∧ True := by
  obtain ⟨a0, v0, rfl, -, h⟩ := h
  obtain ⟨a1, v1, rfl, -, h⟩ := h
  obtain ⟨a2, v2, rfl, -, h⟩ := h
  obtain ⟨a3, v3, rfl, -, h⟩ := h
  obtain ⟨a4, v4, rfl, -, h⟩ := h
  obtain ⟨a5, v5, rfl, -, h⟩ := h
  obtain ⟨a6, v6, rfl, -, h⟩ := h
  obtain ⟨a7, v7, rfl, -, h⟩ := h
  obtain ⟨a8, v8, rfl, -, h⟩ := h
  obtain ⟨a9, v9, rfl, -, h⟩ := h
  obtain ⟨a10, v10, rfl, -, h⟩ := h
  obtain rfl : v10 = [] := h
  exact ⟨⟨a0, ⟨a1, a2, a3, a4, a5, a6, a7, a8, a9, a10⟩⟩, rfl, trivial⟩
theorem ienc_dec34 (vs : List Value) (h : FitsL [some .i64] vs) : ∃ x, vs = ienc x ∧ True := by
  obtain ⟨a0, v0, rfl, -, h⟩ := h
  obtain rfl : v0 = [] := h
  exact ⟨a0, rfl, trivial⟩
theorem enenc_dec34 (vs : List Value) (h : FitsL [some .i64, some .i64, some .i64, some .i64, some .i64, some .i64, some .i64, some .i64, some .i64, some .i64, some .i64] vs) : ∃ x, vs = enenc x ∧ True := by
  obtain ⟨a0, v0, rfl, -, h⟩ := h
  obtain ⟨a1, v1, rfl, -, h⟩ := h
  obtain ⟨a2, v2, rfl, -, h⟩ := h
  obtain ⟨a3, v3, rfl, -, h⟩ := h
  obtain ⟨a4, v4, rfl, -, h⟩ := h
  obtain ⟨a5, v5, rfl, -, h⟩ := h
  obtain ⟨a6, v6, rfl, -, h⟩ := h
  obtain ⟨a7, v7, rfl, -, h⟩ := h
  obtain ⟨a8, v8, rfl, -, h⟩ := h
  obtain ⟨a9, v9, rfl, -, h⟩ := h
  obtain ⟨a10, v10, rfl, -, h⟩ := h
  obtain rfl : v10 = [] := h
  exact ⟨⟨a0, a1, a2, a3, a4, a5, a6, a7, a8, a9, a10⟩, rfl, trivial⟩
theorem evenc_dec (vs : List Value) (h : FitsL [none, some .i64, some .i64, some .i64, some .i64] vs) : ∃ x, vs = evenc x ∧ True := by
  obtain ⟨a0, v0, rfl, h⟩ := h
  obtain ⟨a1, v1, rfl, -, h⟩ := h
  obtain ⟨a2, v2, rfl, -, h⟩ := h
  obtain ⟨a3, v3, rfl, -, h⟩ := h
  obtain ⟨a4, v4, rfl, -, h⟩ := h
  obtain rfl : v4 = [] := h
  exact ⟨⟨a0, a1, a2, a3, a4⟩, rfl, trivial⟩
theorem wenc_dec34 (vs : List Value) (h : FitsL [some .i64, some .i64, some .i64, some .i64, some .i64] vs) : ∃ x, vs = wenc x ∧ True := by
  obtain ⟨a0, v0, rfl, -, h⟩ := h
  obtain ⟨a1, v1, rfl, -, h⟩ := h
  obtain ⟨a2, v2, rfl, -, h⟩ := h
  obtain ⟨a3, v3, rfl, -, h⟩ := h
  obtain ⟨a4, v4, rfl, -, h⟩ := h
  obtain rfl : v4 = [] := h
  exact ⟨⟨a0, a1, a2, a3, a4⟩, rfl, trivial⟩
theorem renc_dec34 (vs : List Value) (h : FitsL [some .i64, some .i64, some .i64] vs) : ∃ x, vs = renc x ∧ True := by
  obtain ⟨a0, v0, rfl, -, h⟩ := h
  obtain ⟨a1, v1, rfl, -, h⟩ := h
  obtain ⟨a2, v2, rfl, -, h⟩ := h
  obtain rfl : v2 = [] := h
  exact ⟨⟨a0, a1, a2⟩, rfl, trivial⟩
end
section
variable {H : Type} {enc : TypeId × Value → H} {w : World} {base : Nat} {spare : Nat → Bool} {held : Bool}
set_option maxRecDepth 100000 in
/-- A task, as an argument: its lists are read where they lie. -/
theorem open_task {r : Reach} {b0 : Nat} {v : Value} {d : DataW H} {p : List MemPlace} (hv : Value.okWide Try.prog w r b0 67 v) (h : DataW.Trod enc Try.prog w base spare held 67 v d p) :
    ∃ x : Tk × Pl, v = .agg (tkcells x.1 x.2).toArray ∧ RdT w x.2 x.1 ∧ NzT x.2 := by
  obtain ⟨cs, rfl, hsz⟩ := okWide_struct Try.underlying67 hv
  obtain ⟨fuel, hf⟩ := h
  have hl : cs.toList.length = 9 := by simpa using hsz.trans (by kernel_rfl : Try.prog.cellsOf 67 = 9)
  obtain ⟨l, hcs⟩ : ∃ l, cs.toList = l := ⟨_, rfl⟩
  have hf' : DataW.trod enc Try.prog w base spare held fuel 67 l = some (d, p) := by rw [← hcs]; exact hf
  rw [hcs] at hl
  match l, hl with
  | [v0, v1, v2, v3, v4, v5, v6, v7, v8], _ =>
    obtain ⟨m0, y0, g0⟩ := struct_field 0 Try.underlying67 rfl hf'
    obtain ⟨m1, y1, g1⟩ := struct_field 1 Try.underlying67 rfl hf'
    obtain ⟨m2, y2, g2⟩ := struct_field 2 Try.underlying67 rfl hf'
    obtain ⟨m3, y3, g3⟩ := struct_field 3 Try.underlying67 rfl hf'
    obtain ⟨m4, y4, g4⟩ := struct_field 4 Try.underlying67 rfl hf'
    obtain ⟨m5, y5, g5⟩ := struct_field 5 Try.underlying67 rfl hf'
    obtain ⟨m6, y6, g6⟩ := struct_field 6 Try.underlying67 rfl hf'
    obtain ⟨m7, y7, g7⟩ := struct_field 7 Try.underlying67 rfl hf'
    have f0 : FitsL [some .u8, some .i64] [v0, v1] := fits_cells (n := 9) (by kernel_rfl) rfl (t := 59) g0
    have f1 : FitsL [some .i64] [v2] := fits_cells (n := 9) (by kernel_rfl) rfl (t := 3) g1
    obtain ⟨P, cp, lp, e2, -, -, -, r2, z2⟩ := rows_field (n := 9) [some .i64, some .u8, some .i64, some .i64, some .i64, some .i64, some .i64, some .i64, some .i64, some .i64, some .i64] sdenc (fun _ => True) Try.underlying60 (by kernel_rfl) (by kernel_rfl) sdenc_dec (by decide) (cs := [v3]) g2
    obtain ⟨M, cm, lm, e3, -, -, -, r3, z3⟩ := rows_field (n := 9) [some .i64] ienc (fun _ => True) Try.underlying61 (by kernel_rfl) (by kernel_rfl) ienc_dec34 (by decide) (cs := [v4]) g3
    obtain ⟨S, cS, ls, e4, -, -, -, r4, z4⟩ := rows_field (n := 9) [some .i64, some .i64, some .i64, some .i64, some .i64, some .i64, some .i64, some .i64, some .i64, some .i64, some .i64] enenc (fun _ => True) Try.underlying62 (by kernel_rfl) (by kernel_rfl) enenc_dec34 (by decide) (cs := [v5]) g4
    obtain ⟨E, ce, le, e5, -, -, -, r5, z5⟩ := rows_field (n := 9) [none, some .i64, some .i64, some .i64, some .i64] evenc (fun _ => True) Try.underlying63 (by kernel_rfl) (by kernel_rfl) evenc_dec (by decide) (cs := [v6]) g5
    obtain ⟨R, cr, lr, e6, -, -, -, r6, z6⟩ := rows_field (n := 9) [some .i64, some .i64, some .i64, some .i64, some .i64] wenc (fun _ => True) Try.underlying64 (by kernel_rfl) (by kernel_rfl) wenc_dec34 (by decide) (cs := [v7]) g6
    obtain ⟨L, cl, ll, e7, -, -, -, r7, z7⟩ := rows_field (n := 9) [some .i64, some .i64, some .i64] renc (fun _ => True) Try.underlying65 (by kernel_rfl) (by kernel_rfl) renc_dec34 (by decide) (cs := [v8]) g7
    obtain ⟨kd, vs, hk, -, f0⟩ := f0
    obtain ⟨n, vs', hn, -, f0⟩ := f0
    obtain ⟨tn, vs'', ht, -, f1⟩ := f1
    simp only [List.cons.injEq] at hk ht e2 e3 e4 e5 e6 e7
    obtain ⟨rfl, rfl⟩ := hk
    simp only [List.cons.injEq] at hn
    obtain ⟨rfl, -⟩ := hn
    obtain ⟨rfl, -⟩ := ht
    obtain ⟨rfl, -⟩ := e2
    obtain ⟨rfl, -⟩ := e3
    obtain ⟨rfl, -⟩ := e4
    obtain ⟨rfl, -⟩ := e5
    obtain ⟨rfl, -⟩ := e6
    obtain ⟨rfl, -⟩ := e7
    refine ⟨(⟨kd, n, tn, lp, lm, ls, le, lr, ll⟩, ⟨P, cp, M, cm, S, cS, E, ce, R, cr, L, cl⟩), ?_, ⟨r2, r3, r4, r5, r6, r7⟩, z2, z3, z4, z5, z6, z7⟩
    rw [show cs = cs.toList.toArray by simp, hcs]
    rfl
end
end Go.Proofs.Ytffehibdeogjeaa
