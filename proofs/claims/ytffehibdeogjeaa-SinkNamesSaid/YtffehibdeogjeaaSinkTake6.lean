/- A sink of rows alone takes a message (chapter 34). Condition: fewer than 4000 rows. -/
import Derived.Test.YtffehibdeogjeaaSinkTake
import Derived.Test.YtffehibdeogjeaaSinkNew
namespace Go.Proofs.Ytffehibdeogjeaa
open Go.RowKit

def NzL (P M S E R L : Option Addr) (cp cm cs ce cr cl : Nat) : Prop := (P = none → cp = 0) ∧ (M = none → cm = 0) ∧ (S = none → cs = 0) ∧ (E = none → ce = 0) ∧ (R = none → cr = 0) ∧ (L = none → cl = 0)
/-- A task that has rows alone, as a result. -/
def Take6 (kd : Int) (X : List Rw) (nx : Nat) (e : Int) (w : World) (r : Ending) (w' : World) : Prop :=
  ∃ (P M S E R L : Option Addr) (cp cm cs ce cr cl : Nat), r = .returned (.tuple #[.agg #[.int .u8 kd, .int .i64 0, .int .i64 0, .slice P 0 cp, .slice M 0 cm, .slice S 0 cs, .slice E 0 ce, .slice R nx cr, .slice L 0 cl], .int .i64 e]) ∧ Rd wenc 5 w' w'.heap.size R X ∧ NzL P M S E R L cp cm cs ce cr cl ∧ (∀ ad, R = some ad → w.heap.size ≤ ad.block) ∧ Below w.heap.size w w'
theorem take6_yes {X : List Rw} {nx : Nat} {m : Ms} (hX : ∀ x ∈ X, isrow x.s x.e = true) (hn : X.length = nx) (h4 : nx < 4000) (hm : isRow m = true) {P M S E R L : Option Addr} {cp cm cs ce cr cl : Nat} (hz : NzL P M S E R L cp cm cs ce cr cl) (W : World) (hr : Rd wenc 5 W W.heap.size R X) :
    Calls Try.prog 41 #[.agg #[.int .u8 6, .int .i64 0, .int .i64 0, .slice P 0 cp, .slice M 0 cm, .slice S 0 cs, .slice E 0 ce, .slice R nx cr, .slice L 0 cl], .agg #[.int .u8 m.kind, .int .i64 m.k, .int .i64 m.t, .int .i64 m.v, .int .i64 m.time, .int .i64 m.rk, .int .i64 m.rs, .int .i64 m.re, .int .i64 m.ra, .int .i64 m.rb]] W (Take6 6 (X ++ [mrow m]) (nx + 1) 0 W) := by
  obtain ⟨z1, z2, z3, z4, z5, z6⟩ := hz
  refine (sinktake_any 6 0 0 [] [] [] [] X [] P M S E R L cp cm cs ce cr cl 0 0 0 0 nx 0 m W rfl rfl rfl rfl hn rfl (by omega) (by omega) (by omega) (by omega) (by omega) (by omega) z1 z2 z3 z4 z5 z6 rd_emp rd_emp rd_emp rd_emp hr rd_emp).mono ?_
  have e : takeP ⟨6, 0, 0, [], [], [], [], X, []⟩ m = (tk6 (X ++ [mrow m]), 0) := by
    have := take6 m hX (by rw [hn]; exact h4)
    rw [if_pos hm] at this
    exact this
  rintro r w' ⟨p, rfl, hrt, hnz, hb, hf, -⟩
  rw [e] at hrt ⊢
  obtain ⟨P', cp', M', cm', S', cs', E', ce', R', cr', L', cl'⟩ := p
  refine ⟨P', M', S', E', R', L', cp', cm', cs', ce', cr', cl', ?_, hrt.2.2.2.2.1, hnz, hf, hb⟩
  have hl : (X ++ [mrow m]).length = nx + 1 := by rw [List.length_append, hn]; rfl
  unfold tkcells tk6 tk0
  dsimp only
  rw [hl]
  rfl
theorem take6_no {X : List Rw} {nx : Nat} {m : Ms} (hX : ∀ x ∈ X, isrow x.s x.e = true) (hn : X.length = nx) (h4 : nx < 4000) (hm : isRow m = false) {P M S E R L : Option Addr} {cp cm cs ce cr cl : Nat} (hz : NzL P M S E R L cp cm cs ce cr cl) (W : World) (hr : Rd wenc 5 W W.heap.size R X) :
    Calls Try.prog 41 #[.agg #[.int .u8 6, .int .i64 0, .int .i64 0, .slice P 0 cp, .slice M 0 cm, .slice S 0 cs, .slice E 0 ce, .slice R nx cr, .slice L 0 cl], .agg #[.int .u8 m.kind, .int .i64 m.k, .int .i64 m.t, .int .i64 m.v, .int .i64 m.time, .int .i64 m.rk, .int .i64 m.rs, .int .i64 m.re, .int .i64 m.ra, .int .i64 m.rb]] W (Take6 0 [] 0 8 W) := by
  obtain ⟨z1, z2, z3, z4, z5, z6⟩ := hz
  refine (sinktake_any 6 0 0 [] [] [] [] X [] P M S E R L cp cm cs ce cr cl 0 0 0 0 nx 0 m W rfl rfl rfl rfl hn rfl (by omega) (by omega) (by omega) (by omega) (by omega) (by omega) z1 z2 z3 z4 z5 z6 rd_emp rd_emp rd_emp rd_emp hr rd_emp).mono ?_
  have e : takeP ⟨6, 0, 0, [], [], [], [], X, []⟩ m = (tk0, 8) := by
    have := take6 m hX (by rw [hn]; exact h4)
    rw [if_neg (by rw [hm]; simp)] at this
    exact this
  rintro r w' ⟨p, rfl, hrt, hnz, hb, hf, -⟩
  rw [e] at hrt ⊢
  obtain ⟨P', cp', M', cm', S', cs', E', ce', R', cr', L', cl'⟩ := p
  exact ⟨P', M', S', E', R', L', cp', cm', cs', ce', cr', cl', rfl, hrt.2.2.2.2.1, hnz, hf, hb⟩
theorem rd_cellK {α : Type} {enc : α → List Value} {sz : Nat} {W : World} {A : Option Addr} {l : List α} (h : Rd enc sz W W.heap.size A l) {b : Nat} (hA : ∀ ad, A = some ad → b < ad.block) (i : Nat) (v : Value) : Rd enc sz (W.setCell ⟨b, i, none⟩ v) (W.setCell ⟨b, i, none⟩ v).heap.size A l :=
  rd_grownBy (row := some b) h ⟨rfl, rfl, rfl, by simp, fun k hk hne => Below.heap_setCell _ _ _ _ (fun e => hne (by rw [e]))⟩ (fun ad e h2 => by have := hA ad e; injection h2; omega)
theorem rd_put9 {α : Type} {enc : α → List Value} {sz : Nat} {W : World} {A : Option Addr} {l : List α} (h : Rd enc sz W W.heap.size A l) {b : Nat} (hA : ∀ ad, A = some ad → b < ad.block) (v0 v1 v2 v3 v4 v5 v6 v7 v8 : Value) : Rd enc sz (put9 W b v0 v1 v2 v3 v4 v5 v6 v7 v8) (put9 W b v0 v1 v2 v3 v4 v5 v6 v7 v8).heap.size A l := by
  unfold put9
  exact rd_cellK (rd_cellK (rd_cellK (rd_cellK (rd_cellK (rd_cellK (rd_cellK (rd_cellK (rd_cellK h hA 0 v0) hA 1 v1) hA 2 v2) hA 3 v3) hA 4 v4) hA 5 v5) hA 6 v6) hA 7 v7) hA 8 v8
theorem ms_cells {w : World} {B : Nat} {A : Option Addr} {l : List Ms} (h : Rd menc 10 w B A l) {k : Nat} {x : Ms} (hx : l[k]? = some x) :
    ∃ b off, A = some ⟨b, off, none⟩ ∧ b < B ∧ w.cell? ⟨b, off + k * 10, none⟩ = some (.int .u8 x.kind) ∧ w.cell? ⟨b, off + k * 10 + 1, none⟩ = some (.int .i64 x.k) ∧ w.cell? ⟨b, off + k * 10 + 2, none⟩ = some (.int .i64 x.t) ∧ w.cell? ⟨b, off + k * 10 + 3, none⟩ = some (.int .i64 x.v) ∧ w.cell? ⟨b, off + k * 10 + 4, none⟩ = some (.int .i64 x.time) ∧ w.cell? ⟨b, off + k * 10 + 5, none⟩ = some (.int .i64 x.rk) ∧ w.cell? ⟨b, off + k * 10 + 6, none⟩ = some (.int .i64 x.rs) ∧ w.cell? ⟨b, off + k * 10 + 7, none⟩ = some (.int .i64 x.re) ∧ w.cell? ⟨b, off + k * 10 + 8, none⟩ = some (.int .i64 x.ra) ∧ w.cell? ⟨b, off + k * 10 + 9, none⟩ = some (.int .i64 x.rb) := by
  obtain ⟨b, off, e, hb, hc⟩ := h.at_ hx
  exact ⟨b, off, e, hb, by simpa using hc 0 _ rfl, hc 1 _ rfl, hc 2 _ rfl, hc 3 _ rfl, hc 4 _ rfl, hc 5 _ rfl, hc 6 _ rfl, hc 7 _ rfl, hc 8 _ rfl, hc 9 _ rfl⟩
def msT (_ : Ms) : Prop := True
theorem menc_dec (vs : List Value) (h : FitsL [some .u8, some .i64, some .i64, some .i64, some .i64, some .i64, some .i64, some .i64, some .i64, some .i64] vs) : ∃ x, vs = menc x ∧ msT x := by
  obtain ⟨a0, v0, rfl, -, h⟩ := h
  obtain ⟨a1, v1, rfl, -, h⟩ := h
  obtain ⟨a2, v2, rfl, -, h⟩ := h
  obtain ⟨a3, v3, rfl, -, h⟩ := h
  obtain ⟨a4, v4, rfl, -, h⟩ := h
  obtain ⟨a5, v5, rfl, -, h⟩ := h
  obtain ⟨a6, v6, rfl, -, h⟩ := h
  obtain ⟨a7, v7, rfl, -, h⟩ := h
  obtain ⟨a8, v8, rfl, -, h⟩ := h
  obtain ⟨a9, v9, rfl, -, h⟩ := h
  obtain rfl : v9 = [] := h
  exact ⟨⟨a0, a1, a2, a3, a4, a5, a6, a7, a8, a9⟩, rfl, trivial⟩
end Go.Proofs.Ytffehibdeogjeaa
