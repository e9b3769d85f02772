/- Tasks in plain terms (chapters 27, 34): sends, events, what a task may have, what a sink takes. No condition. -/
import Derived.Test.YtffehibdeogjeaaSinkMCheck
import Derived.Test.YtffehibdeogjeaaEntriesCheck
import Derived.Test.YtffehibdeogjeaaKitA
namespace Go.Proofs.Ytffehibdeogjeaa
open Go.RowKit

/-- A send: its output, its message. -/
structure Sd where
  out : Int
  m : Ms
deriving DecidableEq
def sdenc (s : Sd) : List Value := [.int .i64 s.out, .int .u8 s.m.kind, .int .i64 s.m.k, .int .i64 s.m.t, .int .i64 s.m.v, .int .i64 s.m.time, .int .i64 s.m.rk, .int .i64 s.m.rs, .int .i64 s.m.re, .int .i64 s.m.ra, .int .i64 s.m.rb]
theorem sdenc_len (s : Sd) : (sdenc s).length = 11 := rfl
theorem sdenc_one (l : List Sd) : ∀ u ∈ l.flatMap sdenc, u.oneCell' = true := by
  intro u hu
  obtain ⟨x, _, hx⟩ := List.mem_flatMap.1 hu
  simp [sdenc] at hx
  rcases hx with rfl | rfl | rfl | rfl | rfl | rfl | rfl | rfl | rfl | rfl | rfl <;> rfl
/-- An event: whether it is a mark, a time, a record. -/
structure Ev where
  ism : Bool
  time : Int
  k : Int
  t : Int
  v : Int
deriving DecidableEq
def evenc (e : Ev) : List Value := [.bool e.ism, .int .i64 e.time, .int .i64 e.k, .int .i64 e.t, .int .i64 e.v]
theorem evenc_len (e : Ev) : (evenc e).length = 5 := rfl
theorem evenc_one (l : List Ev) : ∀ u ∈ l.flatMap evenc, u.oneCell' = true := by
  intro u hu
  obtain ⟨x, _, hx⟩ := List.mem_flatMap.1 hu
  simp [evenc] at hx
  rcases hx with rfl | rfl | rfl | rfl | rfl <;> rfl
theorem sd_cells {w : World} {B : Nat} {A : Option Addr} {l : List Sd} (h : Rd sdenc 11 w B A l) {k : Nat} {x : Sd} (hx : l[k]? = some x) :
    ∃ b off, A = some ⟨b, off, none⟩ ∧ b < B ∧ w.cell? ⟨b, off + k * 11, none⟩ = some (.int .i64 x.out) ∧ w.cell? ⟨b, off + k * 11 + 1, none⟩ = some (.int .u8 x.m.kind) ∧ w.cell? ⟨b, off + k * 11 + 2, none⟩ = some (.int .i64 x.m.k) ∧ w.cell? ⟨b, off + k * 11 + 3, none⟩ = some (.int .i64 x.m.t) ∧ w.cell? ⟨b, off + k * 11 + 4, none⟩ = some (.int .i64 x.m.v) ∧ w.cell? ⟨b, off + k * 11 + 5, none⟩ = some (.int .i64 x.m.time) ∧ w.cell? ⟨b, off + k * 11 + 6, none⟩ = some (.int .i64 x.m.rk) ∧ w.cell? ⟨b, off + k * 11 + 7, none⟩ = some (.int .i64 x.m.rs) ∧ w.cell? ⟨b, off + k * 11 + 8, none⟩ = some (.int .i64 x.m.re) ∧ w.cell? ⟨b, off + k * 11 + 9, none⟩ = some (.int .i64 x.m.ra) ∧ w.cell? ⟨b, off + k * 11 + 10, none⟩ = some (.int .i64 x.m.rb) := by
  obtain ⟨b, off, e, hb, hc⟩ := h.at_ hx
  exact ⟨b, off, e, hb, by simpa using hc 0 _ rfl, hc 1 _ rfl, hc 2 _ rfl, hc 3 _ rfl, hc 4 _ rfl, hc 5 _ rfl, hc 6 _ rfl, hc 7 _ rfl, hc 8 _ rfl, hc 9 _ rfl, hc 10 _ rfl⟩
theorem ev_cells {w : World} {B : Nat} {A : Option Addr} {l : List Ev} (h : Rd evenc 5 w B A l) {k : Nat} {x : Ev} (hx : l[k]? = some x) :
    ∃ b off, A = some ⟨b, off, none⟩ ∧ b < B ∧ w.cell? ⟨b, off + k * 5, none⟩ = some (.bool x.ism) ∧ w.cell? ⟨b, off + k * 5 + 1, none⟩ = some (.int .i64 x.time) ∧ w.cell? ⟨b, off + k * 5 + 2, none⟩ = some (.int .i64 x.k) ∧ w.cell? ⟨b, off + k * 5 + 3, none⟩ = some (.int .i64 x.t) ∧ w.cell? ⟨b, off + k * 5 + 4, none⟩ = some (.int .i64 x.v) := by
  obtain ⟨b, off, e, hb, hc⟩ := h.at_ hx
  exact ⟨b, off, e, hb, by simpa using hc 0 _ rfl, hc 1 _ rfl, hc 2 _ rfl, hc 3 _ rfl, hc 4 _ rfl⟩
theorem mk_at {w : World} {B : Nat} {A : Option Addr} {l : List Int} (h : Rd ienc 1 w B A l) {k : Nat} {x : Int} (hx : l[k]? = some x) : ∃ b off, A = some ⟨b, off, none⟩ ∧ b < B ∧ w.cell? ⟨b, off + k, none⟩ = some (.int .i64 x) := by
  obtain ⟨b, off, e, hb, hc⟩ := h.at_ hx
  exact ⟨b, off, e, hb, by simpa using hc 0 _ rfl⟩
/-- A send that is right; an event that is right; a mark, or the lowest. -/
def sdok (s : Sd) : Bool := decide (0 ≤ s.out ∧ s.out < 3) && msok s.m
def evok (e : Ev) : Bool := if e.ism = true then ismark e.time && decide (e.k = 0 ∧ e.t = 0 ∧ e.v = 0) else decide (e.time = 0) && istime e.t
def lowmark (t : Int) : Bool := decide (t = -9223372036854775808) || ismark t
/-- A task. -/
structure Tk where
  kd : Int
  n : Int
  turn : Int
  ps : List Sd
  ms : List Int
  st : List En
  es : List Ev
  rs : List Rw
  ls : List Rc
/-- As many of all as the kind allows. -/
def kept (t : Tk) : Bool :=
  if t.kd = 1 then decide (t.ms.length = 0 ∧ t.st.length = 0 ∧ t.es.length ≤ 60 ∧ t.rs.length = 0 ∧ t.ls.length = 0)
  else if t.kd = 2 then decide (t.ms.length = 1 ∧ t.st.length = 0 ∧ t.es.length = 0 ∧ t.rs.length = 0 ∧ t.ls.length = 0)
  else if t.kd = 3 then decide (t.ms.length = 0 ∧ t.st.length = 0 ∧ t.es.length = 0 ∧ t.rs.length = 0 ∧ t.ls.length = 0)
  else if t.kd = 4 then decide (1 ≤ t.ms.length ∧ t.ms.length ≤ 4 ∧ t.es.length = 0 ∧ t.rs.length = 0 ∧ t.ls.length = 0)
  else if t.kd = 5 then decide (t.ms.length = 2 ∧ t.es.length = 0 ∧ t.rs.length = 0 ∧ t.ls.length = 0)
  else if t.kd = 6 then decide (t.ms.length = 0 ∧ t.st.length = 0 ∧ t.es.length = 0 ∧ t.rs.length ≤ 4000 ∧ t.ls.length = 0)
  else if t.kd = 7 then decide (t.ms.length = 0 ∧ t.st.length = 0 ∧ t.es.length = 0 ∧ t.rs.length = 0 ∧ t.ls.length ≤ 4000)
  else false
def lone (t : Tk) : Bool := t.st.all fun x => !decide (t.kd = 4) || decide (x.c2 = 0)
/-- A task that is valid. -/
noncomputable def tkok (t : Tk) : Bool := decide (0 ≤ t.turn ∧ t.turn < 20 ∧ 0 ≤ t.n ∧ t.n < 4 ∧ t.ps.length ≤ 4000) && kept t && t.ps.all sdok && decide (enchk t.st = 0)
  && t.ms.all lowmark && t.es.all evok && t.rs.all (fun x => isrow x.s x.e) && t.ls.all (fun x => istime x.t) && lone t
def tk0 : Tk := ⟨0, 0, 0, [], [], [], [], [], []⟩
def mrow (m : Ms) : Rw := ⟨m.rk, m.rs, m.re, m.ra, m.rb⟩
def mrec (m : Ms) : Rc := ⟨m.k, m.t, m.v⟩
/-- What a sink is after taking a message. -/
noncomputable def takeP (t : Tk) (m : Ms) : Tk × Int :=
  if tkok t = false then (tk0, 8)
  else if t.kd = 7 then
    if msok m = true ∧ m.kind = 4 then if 4000 ≤ t.ls.length then (tk0, 4) else ({ t with ls := t.ls ++ [mrec m] }, 0) else (tk0, 8)
  else if t.kd = 6 then
    if msok m = true ∧ m.kind = 3 then if 4000 ≤ t.rs.length then (tk0, 4) else ({ t with rs := t.rs ++ [mrow m] }, 0) else (tk0, 8)
  else (tk0, 2)
/-- A task's value, where its lists lie. -/
structure Pl where
  P : Option Addr
  cp : Nat
  M : Option Addr
  cm : Nat
  S : Option Addr
  cs : Nat
  E : Option Addr
  ce : Nat
  R : Option Addr
  cr : Nat
  L : Option Addr
  cl : Nat
def tkcells (t : Tk) (p : Pl) : List Value := [.int .u8 t.kd, .int .i64 t.n, .int .i64 t.turn, .slice p.P t.ps.length p.cp, .slice p.M t.ms.length p.cm, .slice p.S t.st.length p.cs, .slice p.E t.es.length p.ce, .slice p.R t.rs.length p.cr, .slice p.L t.ls.length p.cl]
/-- A task's lists are read there. -/
def RdT (w : World) (p : Pl) (t : Tk) : Prop :=
  Rd sdenc 11 w w.heap.size p.P t.ps ∧ Rd ienc 1 w w.heap.size p.M t.ms ∧ Rd enenc 11 w w.heap.size p.S t.st ∧ Rd evenc 5 w w.heap.size p.E t.es ∧ Rd wenc 5 w w.heap.size p.R t.rs ∧ Rd renc 3 w w.heap.size p.L t.ls
/-- A list at no address has no room. -/
def NzT (p : Pl) : Prop := (p.P = none → p.cp = 0) ∧ (p.M = none → p.cm = 0) ∧ (p.S = none → p.cs = 0) ∧ (p.E = none → p.ce = 0) ∧ (p.R = none → p.cr = 0) ∧ (p.L = none → p.cl = 0)
theorem RdT.grow {w w' : World} {p : Pl} {t : Tk} (h : RdT w p t) (hb : Below w.heap.size w w') : RdT w' p t :=
  ⟨rd_grown h.1 hb, rd_grown h.2.1 hb, rd_grown h.2.2.1 hb, rd_grown h.2.2.2.1 hb, rd_grown h.2.2.2.2.1 hb, rd_grown h.2.2.2.2.2 hb⟩
end Go.Proofs.Ytffehibdeogjeaa
