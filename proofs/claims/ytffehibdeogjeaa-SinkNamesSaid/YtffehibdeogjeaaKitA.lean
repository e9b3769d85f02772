/- Lemmas and contracts that the later texts use: Base, Reads, Open, Append, RowLaws, Ints, Held, Kit3, joined into one text. The conditions of each stand at its head. -/
import Derived.Test.YtffehibdeogjeaaRows
import Derived.WalkKit
import Derived.WalkSpells
import Derived.WalkLawsBesides
import Derived.Lib.Hide
import Derived.ProofKit
import Derived.OpenShut
import Derived.SizedLaws
import Derived.Deep.RegionHeld3
import Derived.Deep.RegionWith
import Derived.BigQuiet
import Derived.Deep.QuietTactic
import Derived.Laws.OwnMore
import Derived.Deep.AppendLies
import Derived.Deep.Draws
import Derived.Deep.Slices
import Derived.Laws.CopyRow
import Derived.Laws.AppendOwnNone
import Derived.ArgAppend
import Derived.OwnWalk
import Derived.Laws.MakeOwn
/- Small lemmas that every text of this seat uses: how a law's walk ('returns true, and nothing that was there has turned') becomes the given statement. No condition. -/
namespace Go.Proofs.Ytffehibdeogjeaa
open Go.RowKit Go.ChangeShapes Go.WideShapes Go.ChangeAt

theorem ret_i64 {a b : Int} (h : a = b) : Ending.returned (.int .i64 a) = .returned (.int .i64 b) := by rw [h]
theorem ret2_i64 {a b c d : Int} (h : a = b) (h' : c = d) : Ending.returned (.tuple #[.int .i64 a, .int .i64 c]) = .returned (.tuple #[.int .i64 b, .int .i64 d]) := by rw [h, h']
theorem ret_bool {a b : Bool} (h : a = b) : Ending.returned (.bool a) = .returned (.bool b) := by rw [h]

theorem bcell {W w1 : World} (hb : Below W.heap.size W w1) : (∀ b o, b < W.heap.size → w1.cell? ⟨b, o, none⟩ = W.cell? ⟨b, o, none⟩) ∧ (∀ b o, b < W.heap.size → w1.frozen? ⟨b, o, none⟩ = W.frozen? ⟨b, o, none⟩) :=
  ⟨fun b o h => hb.cell (p := ⟨b, o, none⟩) h, fun b o h => hb.frozen (p := ⟨b, o, none⟩) h⟩

/-- What a walk needs of a world that has grown: old cells and marks, and the sizes, as rules. -/
theorem bfacts {W w1 : World} (hb : Below W.heap.size W w1) : (∀ b o, b < W.heap.size → w1.cell? ⟨b, o, none⟩ = W.cell? ⟨b, o, none⟩) ∧ (∀ b o, b < W.heap.size → w1.frozen? ⟨b, o, none⟩ = W.frozen? ⟨b, o, none⟩) ∧
    (∀ n, n < W.heap.size → n < w1.heap.size) ∧ (∀ n, n < w1.heap.size → n ≤ w1.heap.size) :=
  ⟨fun b o h => hb.cell (p := ⟨b, o, none⟩) h, fun b o h => hb.frozen (p := ⟨b, o, none⟩) h, fun _ h => Nat.lt_of_lt_of_le h hb.size, fun _ h => Nat.le_of_lt h⟩
theorem below_then {w w1 w2 : World} (h : Below w.heap.size w w1) (h2 : Below w1.heap.size w1 w2) : Below w.heap.size w w2 := h.trans (h2.mono h.size)
theorem lt_of_below {w w1 : World} {o : Obj} (h : Below (w.alloc o).heap.size (w.alloc o) w1) : w.heap.size < w1.heap.size := by
  have := h.size; simp at this; omega
theorem below_new {w w1 : World} (h : Below w.heap.size w w1) (o : Obj) : Below w.heap.size w (w1.alloc o) := h.alloc h.size o

theorem below_drew {w w1 : World} (h : Below w.heap.size w w1) : Below w.heap.size w w1.drew := h.drew
theorem below_drewN {w w1 : World} (h : Below w.heap.size w w1) (n : Nat) : Below w.heap.size w (w1.drewN n) := ⟨h.os, h.tape, h.output, h.size, h.block⟩
theorem below_put {w w1 : World} (h : Below w.heap.size w w1) {p : Addr} (hp : w.heap.size ≤ p.block) (v : Value) : Below w.heap.size w (w1.setCell p v) := h.setCell hp v

theorem results_cell1 {fn : Func} {p : Tmp} {ty : TypeId} (h : fn.results = #[.cell p ty]) (tmps : Array Value) (P : Program) (w : World) :
    (results fn tmps).run P w = ((asAddr (tmps.getD p undef)).run P w).andThen fun a w₁ => (loadVar ty a).run P w₁ := by
  simp only [results, h]
  simp [Sem.run_bind, Result.andThen]

/-! ### the call's own boxed locals: a list of blocks with their cells, kept over calls -/
def Loc (w : World) : List (Nat × List Value) → Prop
  | [] => True
  | (b, cs) :: l => b < w.heap.size ∧ (∀ i, w.cell? ⟨b, i, none⟩ = cs[i]?) ∧ (∀ i, w.frozen? ⟨b, i, none⟩ = false) ∧ Loc w l
theorem Loc.nil (w : World) : Loc w [] := trivial
theorem Loc.below {w w' : World} (hb : Below w.heap.size w w') : ∀ {l : List (Nat × List Value)}, Loc w l → Loc w' l
  | [], _ => trivial
  | (_, _) :: _, ⟨h1, h2, h3, h4⟩ => ⟨Nat.lt_of_lt_of_le h1 hb.size, fun i => (hb.cell h1).trans (h2 i), fun i => (hb.frozen h1).trans (h3 i), h4.below hb⟩
theorem Loc.old {w : World} {l : List (Nat × List Value)} (h : Loc w l) (o : Obj) : Loc (w.alloc o) l := h.below ((Below.refl _ _).alloc (Nat.le_refl _) o)
theorem Loc.new {w : World} {l : List (Nat × List Value)} (h : Loc w l) (cs : List Value) (t : TypeId) : Loc (w.alloc (.cells cs.toArray t)) ((w.heap.size, cs) :: l) :=
  ⟨by simp, fun i => by rw [World.cell?_alloc_at _ _ _ _ rfl]; simp, fun i => World.frozen?_alloc_at _ _ _ _ rfl, h.old _⟩
theorem Loc.drew {w : World} {l : List (Nat × List Value)} (h : Loc w l) : Loc w.drew l := h.below (Below.drew (Below.refl _ _))

theorem Loc.far {w : World} {p : Addr} (v : Value) : ∀ {l : List (Nat × List Value)}, (∀ q ∈ l, q.1 ≠ p.block) → Loc w l → Loc (w.setCell p v) l
  | [], _, _ => trivial
  | (b, _) :: _, hne, ⟨h1, h2, h3, h4⟩ => by
    have hb : b ≠ p.block := hne _ (List.mem_cons_self)
    have e : (w.setCell p v).heap[b]? = w.heap[b]? := Below.heap_setCell _ _ _ _ hb
    exact ⟨by simpa [World.setCell] using h1, fun i => (World.cell?_of_block (a := ⟨b, i, none⟩) e).trans (h2 i), fun i => (World.frozen?_of_block (a := ⟨b, i, none⟩) e).trans (h3 i), Loc.far v (fun q hq => hne q (List.mem_cons_of_mem _ hq)) h4⟩
theorem Loc.put {w : World} {b : Nat} {cs : List Value} {l : List (Nat × List Value)} (h : Loc w ((b, cs) :: l)) (hne : ∀ q ∈ l, q.1 ≠ b) (i : Nat) (v : Value) (hi : i < cs.length) :
    Loc (w.setCell ⟨b, i, none⟩ v) ((b, cs.set i v) :: l) := by
  obtain ⟨h1, h2, h3, h4⟩ := h
  refine ⟨by simpa [World.setCell] using h1, fun j => ?_, fun j => ?_, Loc.far (p := ⟨b, i, none⟩) v hne h4⟩
  · have hi' := h2 i
    rw [List.getElem?_eq_getElem hi] at hi'
    rw [List.getElem?_set]
    by_cases hij : i = j
    · subst hij
      rw [if_pos rfl, if_pos hi]
      exact World.cell?_setCell_same _ _ _ hi'
    · rw [if_neg hij, ← h2 j]
      exact World.cell?_setCell_other _ _ _ _ (fun e => hij (by injection e))
  · rw [World.frozen?_setCell]; exact h3 j

/-- What a region's walk keeps: nothing that was there when the call began has turned, and the call's own boxes are as they are told. -/
def Env (w0 : World) (L : List (Nat × List Value)) (w' : World) : Prop := Below w0.heap.size w0 w' ∧ Loc w' L
theorem Env.step {w0 W w' : World} {L : List (Nat × List Value)} (hb : Below W.heap.size W w') (h : Env w0 L W) : Env w0 L w' := ⟨below_then h.1 hb, h.2.below hb⟩
theorem Env.below {w0 W : World} {L : List (Nat × List Value)} (h : Env w0 L W) : Below w0.heap.size w0 W := h.1
theorem Env.old {w0 W : World} {L : List (Nat × List Value)} (h : Env w0 L W) (o : Obj) : Env w0 L (W.alloc o) := ⟨below_new h.1 o, h.2.old o⟩
theorem Env.far {w0 W : World} {L : List (Nat × List Value)} (h : Env w0 L W) {p : Addr} (hB : w0.heap.size ≤ p.block) (hne : ∀ q ∈ L, q.1 ≠ p.block) (v : Value) : Env w0 L (W.setCell p v) :=
  ⟨below_put h.1 hB v, h.2.far v hne⟩
theorem Env.far' {w0 W W' : World} {L : List (Nat × List Value)} (h : Env w0 L W) (h' : Env w0 L W') (hne : ∀ q ∈ L, q.1 ≠ W'.heap.size) (v : Value) {i : Nat} : Env w0 L (W.setCell ⟨W'.heap.size, i, none⟩ v) := h.far h'.1.size hne v
theorem Env.lt {w0 W : World} {L : List (Nat × List Value)} (h : Env w0 L W) : ∀ q ∈ L, q.1 ≠ W.heap.size := by
  have key : ∀ l : List (Nat × List Value), Loc W l → ∀ q ∈ l, q.1 < W.heap.size := by
    intro l
    induction l with
    | nil => intro _ q hq; cases hq
    | cons x l ih =>
      intro hl q hq
      obtain ⟨b, cs⟩ := x
      obtain ⟨h1, _, _, h4⟩ := hl
      rcases List.mem_cons.1 hq with rfl | hq
      · exact h1
      · exact ih h4 q hq
  exact fun q hq => Nat.ne_of_lt (key L h.2 q hq)
theorem Env.put {w0 W : World} {b : Nat} {cs : List Value} {l : List (Nat × List Value)} (h : Env w0 ((b, cs) :: l) W) (hB : w0.heap.size ≤ b) (hne : ∀ q ∈ l, q.1 ≠ b) (i : Nat) (v : Value) (hi : i < cs.length) :
    Env w0 ((b, cs.set i v) :: l) (W.setCell ⟨b, i, none⟩ v) := ⟨below_put h.1 hB v, h.2.put hne i v hi⟩
theorem Env.put4 {w0 W : World} {b : Nat} {c0 c1 c2 c3 : Value} {l : List (Nat × List Value)} (h : Env w0 ((b, [c0, c1, c2, c3]) :: l) W) (hB : w0.heap.size ≤ b) (hne : ∀ q ∈ l, q.1 ≠ b) (v0 v1 v2 v3 : Value) :
    Env w0 ((b, [v0, v1, v2, v3]) :: l) ((((W.setCell ⟨b, 0, none⟩ v0).setCell ⟨b, 1, none⟩ v1).setCell ⟨b, 2, none⟩ v2).setCell ⟨b, 3, none⟩ v3) :=
  (((h.put hB hne 0 v0 (by simp)).put hB hne 1 v1 (by simp)).put hB hne 2 v2 (by simp)).put hB hne 3 v3 (by simp)
theorem Env.drew {w0 W : World} {L : List (Nat × List Value)} (h : Env w0 L W) : Env w0 L W.drew := ⟨below_drew h.1, h.2.drew⟩

theorem Env.lt' {w0 W : World} {L : List (Nat × List Value)} (h : Env w0 L W) : ∀ q ∈ L, q.1 < W.heap.size := by
  have key : ∀ l : List (Nat × List Value), Loc W l → ∀ q ∈ l, q.1 < W.heap.size := by
    intro l
    induction l with
    | nil => intro _ q hq; cases hq
    | cons x l ih =>
      intro hl q hq
      obtain ⟨b, cs⟩ := x
      obtain ⟨h1, _, _, h4⟩ := hl
      rcases List.mem_cons.1 hq with rfl | hq
      · exact h1
      · exact ih h4 q hq
  exact key L h.2
theorem Env.far0 {w0 W Y : World} {L : List (Nat × List Value)} (h : Env w0 L W) (h' : Env w0 L Y) (v : Value) {i : Nat} : Env w0 L (W.setCell ⟨Y.heap.size, i, none⟩ v) :=
  h.far h'.1.size (fun q hq => Nat.ne_of_lt (h'.lt' q hq)) v
theorem Env.far1 {w0 W Y : World} {L : List (Nat × List Value)} (h : Env w0 L W) (h' : Env w0 L Y) (v : Value) {i : Nat} : Env w0 L (W.setCell ⟨Y.heap.size + 1, i, none⟩ v) :=
  h.far (Nat.le_trans h'.1.size (Nat.le_add_right _ _)) (fun q hq => Nat.ne_of_lt (Nat.lt_of_lt_of_le (h'.lt' q hq) (Nat.le_add_right _ _))) v
theorem Env.farA {w0 W Y : World} {o : Obj} {L : List (Nat × List Value)} (h : Env w0 L W) (h' : Env w0 L (Y.alloc o)) (v : Value) {i : Nat} : Env w0 L (W.setCell ⟨Y.heap.size + 1, i, none⟩ v) := by
  have := Env.far0 h h' v (i := i)
  rwa [World.size_alloc] at this

/-- The same behind a name: the list is not to be seen, what it says of each world is a rule. -/
theorem Env.abs {w0 W : World} {l : List (Nat × List Value)} (hb : Below w0.heap.size w0 W) (h : Loc W l) : ∃ l' : List (Nat × List Value), Env w0 l' W ∧ (∀ X, Env w0 l' X → Loc X l) :=
  ⟨l, ⟨hb, h⟩, fun _ h => h.2⟩

section
variable {H : Type} {enc : TypeId × Value → H} {P : Program}
theorem post_of_below {f : Func} {s : ChangeSpec} {apart fresh handsOn again : Bool} {W W' : World} {args : Array Value} {v : Value} {ds gs : List (DataW H)} {before pa pv : List MemPlace}
    (hW : DataW.Whole enc P f.params.toList s.vars apart W args.toList ds gs before)
    (hres : ∀ (b : Nat) (sp : Nat → Bool) (hd : Bool), DataW.TrodAll enc P W' b sp hd f.resultTypes.toList (v.resultList f.resultTypes.size) (s.fn H (ds ++ gs)).results [])
    (hargs : ∀ sp : Nat → Bool, (∀ p ∈ before, sp p.block = true) → DataW.TrodAll enc P W' 0 sp true f.params.toList args.toList (s.fn H (ds ++ gs)).args pa)
    (hvars : ∀ sp : Nat → Bool, (∀ p ∈ before, sp p.block = true) → DataW.TrodVars enc P W' sp s.vars (s.fn H (ds ++ gs)).vars pv)
    (hps : before = pa ++ pv) (hb : Below W.heap.size W W')
    (hok : ∀ (j : Nat) (t : TypeId) (r : Value), f.resultTypes[j]? = some t → (v.resultList f.resultTypes.size)[j]? = some r → Value.okWide P W' .any 0 t r) :
    s.post enc P f apart fresh handsOn again W args v W' := by
  have hlt : ∀ p ∈ before, p.block < W.heap.size := fun p hp => hW.lt p hp
  have hold : ∀ p ∈ before, (fun b => decide (b < W.heap.size)) p.block = true := fun p hp => by simpa using hlt p hp
  refine ⟨ds, gs, before, [], pa, pv, hW, hres _ _ _, hargs _ hold, hvars _ hold, World.keptBut_mono (fun p hp => ⟨hp, ?_⟩) (hb.frame (· ∈ before)), fun _ => ?_⟩
  · rw [hps, List.mem_append] at hp
    exact Or.inr hp
  · obtain ⟨_, _, _, _, _, hz, hn⟩ := hW
    refine ⟨hok, _, _, ([] ++ pa) ++ pv, ⟨[] ++ pa, pv, trodAll_append (hargs _ (fun _ _ => rfl)) (hres _ _ _), hvars _ (fun _ _ => rfl), rfl, ?_, ?_⟩, ?_⟩
    · intro b off hp
      have hin : MemPlace.cell b off ∈ before := by rw [hps]; simpa using hp
      rw [hb.frozen (hlt _ hin)]
      exact hz b off hin
    · intro ha
      have := hn ha
      rw [hps] at this
      simpa using this
    · intro p hp _
      rw [hps]
      simpa using hp

theorem trodAll_stays (hl : laidOutB P = true) {W W' : World} {sp' : Nat → Bool} : ∀ (ts : List TypeId) (vs : List Value) (ds : List (DataW H)) (ps : List MemPlace),
    ts.all (fun t => P.readableRec t && decide (t < P.types.size)) = true →
    DataW.TrodAll enc P W 0 (fun _ => true) true ts vs ds ps → (∀ p ∈ ps, W.sameAt W' p) → (∀ p ∈ ps, sp' p.block = true) → DataW.TrodAll enc P W' 0 sp' true ts vs ds ps
  | [], [], [], _, _, h, _, _ => h
  | t :: ts, v :: vs, d :: ds, ps, hr, h, hsame, hs => by
    obtain ⟨p, q, h1, h2, rfl⟩ := h
    simp only [List.all_cons, Bool.and_eq_true, decide_eq_true_eq] at hr
    exact ⟨p, q, WideElems.Trod_stays hl hr.1.1 hr.1.2 h1 (fun x hx => hsame x (List.mem_append_left _ hx)) (fun x hx => hs x (List.mem_append_left _ hx)),
      trodAll_stays hl ts vs ds q hr.2 h2 (fun x hx => hsame x (List.mem_append_right _ hx)) (fun x hx => hs x (List.mem_append_right _ hx)), rfl⟩
  | [], [], _ :: _, _, _, h, _, _ => h.elim
  | [], _ :: _, _, _, _, h, _, _ => h.elim
  | _ :: _, [], _, _, _, h, _, _ => h.elim
  | _ :: _, _ :: _, [], _, _, h, _, _ => h.elim
end

/-- A law: its walk gives its contract. -/
theorem law_lift {C : Checked} {os : Os} (started : os.Started) {H : Type} {enc : TypeId × Value → H} {f : FuncId} {fn : Func} {s : ChangeSpec} {conds : List PathCond} {tb : TypeId}
    (own : ownKnob C.prog.godebug = none) (noInit : C.prog.inits.idxOf? f = none) (hfn : C.prog.funcs[f]? = some fn)
    (witness : ∃ (w : World) (tape : Tape) (i : Input), w.os = os ∧ (w.forCall tape i).Shaped C.prog ∧ i.vars = [] ∧ Input.okWide C.prog (w.forCall tape i) .any w.heap.size f i ∧
      s.pre6 enc C.prog fn conds false (w.forCall tape i).memory i.args ∧ ({} : Assume).holds C.prog (lone (Frame.enter C.prog f i.args .normal) [] (w.forCall tape i)))
    (hvars : s.vars = []) (hres : fn.resultTypes = #[tb]) (htb : C.prog.underlying tb = some .bool) (hlaid : laidOutB C.prog = true)
    (hread : fn.params.toList.all (fun t => C.prog.readableRec t && decide (t < C.prog.types.size)) = true)
    (hspec : ∀ (ds : List (DataW H)), ds.length = fn.params.size → s.fn H ds = { results := [.lit (.bool true)], args := ds })
    (walk : ∀ (W : World) (base : Nat) (args : Array Value) (ds : List (DataW H)) (ps : List MemPlace),
      (∀ (j : Nat) t v, fn.params[j]? = some t → args[j]? = some v → Value.okWide C.prog W .any base t v) →
      DataW.TrodAll enc C.prog W 0 (fun _ => true) true fn.params.toList args.toList ds ps → (∀ x ∈ ps, x.block < W.heap.size) →
      (DataW.weightsEach C.prog fn.params.toList ds).all (· ≤ reachBytes) = true →
      Calls C.prog f args W fun e W' => e = .returned (.bool true) ∧ Below W.heap.size W W') :
    ReturnsInHanded {} C os f .any (s.pre6 enc C.prog fn conds false) (s.post enc C.prog fn false true false false) := by
  refine returnsInHanded_of_change_sized own started noInit hfn witness ?_
  intro W base args ds gs before hval hW _ hsz _
  have hW' := hW
  obtain ⟨p, q, hA, hV, rfl, hfz, hnd⟩ := hW
  have hlt : ∀ x ∈ p ++ q, x.block < W.heap.size := fun x hx => hW'.lt x hx
  rw [hvars] at hV
  obtain ⟨rfl, rfl⟩ := trodVars_none hV
  have hpv : s.plain.varTypes C.prog = [] := by
    obtain ⟨nm, vars, fnc⟩ := s
    simp only at hvars
    subst hvars
    rfl
  rw [hpv] at hsz
  simp only [List.append_nil] at hsz hlt
  refine (walk W base args ds p hval hA hlt hsz).mono fun e W' ⟨he, hb⟩ => ?_
  subst he
  have hl : ds.length = fn.params.size := by
    have key : ∀ (ts : List TypeId) (vs : List Value) (ds : List (DataW H)) (ps : List MemPlace), DataW.TrodAll enc C.prog W 0 (fun _ => true) true ts vs ds ps → ds.length = ts.length := by
      intro ts
      induction ts with
      | nil =>
        intro vs ds ps h
        match vs, ds, h with
        | [], [], _ => rfl
      | cons t ts ih =>
        intro vs ds ps h
        match vs, ds, h with
        | v :: vs, d :: ds, h =>
          obtain ⟨_, _, _, h2, _⟩ := h
          simp [ih _ _ _ h2]
    simpa using key _ _ _ _ hA
  have hf : s.fn H (ds ++ []) = { results := [.lit (.bool true)], args := ds } := by rw [List.append_nil]; exact hspec ds hl
  refine ⟨_, rfl, post_of_below (pa := p) (pv := []) hW' (fun b sp hd => ?_) (fun sp hsp => ?_) (fun sp _ => ?_) rfl hb ?_⟩
  · rw [hf, hres]
    exact trodAll_cons_mk (shut_bool htb true) trodAll_mk0
  · rw [hf]
    exact trodAll_stays hlaid _ _ _ _ hread hA (fun x hx => hb.same (hlt x hx)) (fun x hx => hsp x (by simpa using hx))
  · rw [hf, hvars]
    rfl
  · exact ok_one hres rfl (okWide_bool_mk htb true)
end Go.Proofs.Ytffehibdeogjeaa

/- Slices that read as lists of elements (each element some cells), and slices that the call itself made: small lemmas on memory. No condition. -/
namespace Go.Proofs.Ytffehibdeogjeaa
open Go.RowKit

/-- The slice whose address is A reads as the list l: element k, of sz cells, lies at 'off + k * sz'. -/
def Rd {α : Type} (enc : α → List Value) (sz : Nat) (w : World) (B : Nat) (A : Option Addr) (l : List α) : Prop :=
  l ≠ [] → ∃ b off, A = some ⟨b, off, none⟩ ∧ b < B ∧ ∀ (k : Nat) (x : α), l[k]? = some x → ∀ (j : Nat) (u : Value), (enc x)[j]? = some u → w.cell? ⟨b, off + k * sz + j, none⟩ = some u

section
variable {α : Type} {enc : α → List Value} {sz : Nat} {w w' : World} {B B' : Nat} {A : Option Addr} {l : List α}
theorem Rd.nil : Rd enc sz w B A ([] : List α) := fun h => absurd rfl h
theorem Rd.at_ (h : Rd enc sz w B A l) {k : Nat} {x : α} (hx : l[k]? = some x) : ∃ b off, A = some ⟨b, off, none⟩ ∧ b < B ∧ ∀ (j : Nat) (u : Value), (enc x)[j]? = some u → w.cell? ⟨b, off + k * sz + j, none⟩ = some u := by
  obtain ⟨b, off, e, hb, hc⟩ := h (by rintro rfl; simp at hx)
  exact ⟨b, off, e, hb, hc k x hx⟩
theorem Rd.keep (h : Rd enc sz w B A l) (hk : ∀ p : Addr, p.block < B → w'.cell? p = w.cell? p) : Rd enc sz w' B A l := fun hn => by
  obtain ⟨b, off, e, hb, hc⟩ := h hn
  exact ⟨b, off, e, hb, fun k x hx j u hu => (hk _ hb).trans (hc k x hx j u hu)⟩
theorem Rd.more (h : Rd enc sz w B A l) (hB : B ≤ B') : Rd enc sz w B' A l := fun hn => by
  obtain ⟨b, off, e, hb, hc⟩ := h hn
  exact ⟨b, off, e, Nat.lt_of_lt_of_le hb hB, hc⟩
theorem Rd.below (h : Rd enc sz w B A l) (hb : Below B w w') : Rd enc sz w' B A l := h.keep fun _ hp => hb.cell hp
theorem Rd.grow (h : Rd enc sz w w.heap.size A l) (hb : Below w.heap.size w w') : Rd enc sz w' w'.heap.size A l := (h.below hb).more hb.size
theorem Rd.drewN (h : Rd enc sz w B A l) (k : Nat) : Rd enc sz (w.drewN k) B A l := h
theorem Rd.drew (h : Rd enc sz w B A l) : Rd enc sz w.drew B A l := h
theorem Rd.alloc (h : Rd enc sz w B A l) (hB : B ≤ w.heap.size) (o : Obj) : Rd enc sz (w.alloc o) B A l := h.below ((Below.refl _ _).alloc hB o)
theorem Rd.setCell (h : Rd enc sz w B A l) {p : Addr} (hB : B ≤ p.block) (u : Value) : Rd enc sz (w.setCell p u) B A l := h.below ((Below.refl _ _).setCell hB u)
/-- A cut s[i:j], as the model makes it. -/
theorem Rd.cut (h : Rd enc sz w B A l) (i j : Nat) {cap : Nat} (hij : i ≤ j) (hj : j ≤ l.length) (hc : l.length ≤ cap) :
    Rd enc sz w B (if cap = i then A else A.map (·.add (i * sz))) ((l.take j).drop i) := fun hn => by
  have hlt : i < j := by
    rcases Nat.lt_or_ge i j with h1 | h1
    · exact h1
    · exact absurd (by simp; omega) hn
  obtain ⟨b, off, rfl, hb, hcell⟩ := h (by rintro rfl; simp at hj; omega)
  rw [if_neg (by omega)]
  refine ⟨b, off + i * sz, ?_, hb, fun k x hx m u hu => ?_⟩
  · simp only [Option.map, Addr.add]; split <;> simp_all
  · have hx' : l[i + k]? = some x := by
      rw [List.getElem?_drop, List.getElem?_take] at hx
      split at hx
      · exact hx
      · cases hx
    have := hcell (i + k) x hx' m u hu
    rw [Nat.add_mul] at this
    rw [show off + i * sz + k * sz + m = off + (i * sz + k * sz) + m from by omega]
    exact this
/-- An element of a flat list of cells. -/
theorem flat_at (henc : ∀ x, (enc x).length = sz) : ∀ (l : List α) (k j : Nat) (x : α) (u : Value), l[k]? = some x → (enc x)[j]? = some u → (l.flatMap enc)[k * sz + j]? = some u
  | [], _, _, _, _, h, _ => by simp at h
  | y :: l, 0, j, x, u, h, hu => by
    simp only [List.getElem?_cons_zero, Option.some.injEq] at h
    subst h
    rw [List.flatMap_cons, Nat.zero_mul, Nat.zero_add, List.getElem?_append_left]
    · exact hu
    · exact (List.getElem?_eq_some_iff.1 hu).1
  | y :: l, k + 1, j, x, u, h, hu => by
    simp only [List.getElem?_cons_succ] at h
    rw [List.flatMap_cons, List.getElem?_append_right (by rw [henc, Nat.add_mul]; omega), henc,
      show (k + 1) * sz + j - sz = k * sz + j from by rw [Nat.add_mul]; omega]
    exact flat_at henc l k j x u h hu
theorem flat_length (henc : ∀ x, (enc x).length = sz) (l : List α) : (l.flatMap enc).length = l.length * sz := by
  induction l with
  | nil => simp
  | cons x l ih => rw [List.flatMap_cons, List.length_append, ih, henc, List.length_cons, Nat.add_mul]; omega
end

/-- The slice value v is nil or the call's own (blocks from base on): it holds the list l. -/
def Own {α : Type} (enc : α → List Value) (sz : Nat) (w : World) (base : Nat) (e : TypeId) (v : Value) (l : List α) : Prop := w.ownsRow base e sz v l.length (l.flatMap enc)

section
variable {α : Type} {enc : α → List Value} {sz : Nat} {w w' : World} {base : Nat} {e : TypeId} {v : Value} {l : List α}
theorem Own.nil (w : World) (base : Nat) (e : TypeId) : Own enc sz w base e (.slice none 0 0) ([] : List α) := World.ownsRow_nil _ _ _ _
theorem Own.form (h : Own enc sz w base e v l) : ∃ A c, v = .slice A l.length c ∧ l.length ≤ c ∧ c ≤ maxLen ∧ (∀ ad, A = some ad → ∃ g, ad = ⟨g, 0, none⟩ ∧ base ≤ g ∧ g < w.heap.size) := by
  rcases h.2 with ⟨rfl, h0⟩ | ⟨g, cap, cur, rfl, hb, hg, hnc, hcm, hcs, htake⟩
  · exact ⟨none, 0, by rw [h0], by omega, by simp [maxLen], fun _ h => by cases h⟩
  · refine ⟨_, cap, rfl, hnc, hcm, fun ad had => ⟨g, by injection had with had; exact had.symm, hb, ?_⟩⟩
    rcases Nat.lt_or_ge g w.heap.size with hlt | hge
    · exact hlt
    · rw [Array.getElem?_eq_none hge] at hg; cases hg
theorem Own.rd {A : Option Addr} {n c : Nat} (henc : ∀ x, (enc x).length = sz) (h : Own enc sz w base e (.slice A n c) l) : Rd enc sz w w.heap.size A l := fun hn => by
  have hl : 0 < l.length := List.length_pos_iff.2 hn
  obtain ⟨g, cap, hv, _, hlt⟩ := World.ownsRow.form h hl
  injection hv with hA hn' hc
  subst hA
  refine ⟨g, 0, rfl, hlt, fun k x hx j u hu => ?_⟩
  have := World.ownsRow.cells h (g := g) rfl (k * sz + j) u (flat_at henc l k j x u hx hu)
  have hadd : (⟨g, 0, none⟩ : Addr).add (k * sz + j) = ⟨g, 0 + k * sz + j, none⟩ := by unfold Addr.add; split <;> simp_all
  rw [hadd] at this
  exact this
theorem Own.grown {row : Option Nat} (h : Own enc sz w base e v l) (hg : w.grownBy w' row) (hne : v.ownBlock = none ∨ v.ownBlock ≠ row) : Own enc sz w' base e v l := World.ownsRow.kept h hg hne
theorem Own.alloc (h : Own enc sz w base e v l) (o : Obj) : Own enc sz (w.alloc o) base e v l := World.ownsRow.alloc h o
theorem Own.below (h : Own enc sz w base e v l) (hb : Below w.heap.size w w') : Own enc sz w' base e v l :=
  World.ownsRow.kept h (row := none) ⟨hb.os, hb.tape, hb.output, hb.size, fun k hk _ => hb.block k hk⟩ (by
    rcases hv : v.ownBlock with _ | k
    · exact .inl rfl
    · exact .inr (by simp))
theorem Own.mono {base' : Nat} (h : Own enc sz w base e v l) (hb : base' ≤ base) : Own enc sz w base' e v l := by
  obtain ⟨h1, h2⟩ := h
  refine ⟨h1, ?_⟩
  rcases h2 with h2 | ⟨g, cap, cur, hv, hg, r⟩
  · exact .inl h2
  · exact .inr ⟨g, cap, cur, hv, by omega, r⟩
end
end Go.Proofs.Ytffehibdeogjeaa

/- Arguments of the laws, opened: structs, arrays and slices of structs whose cells are all integers or bools. No condition. -/
namespace Go.Proofs.Ytffehibdeogjeaa
open Go.RowKit Go.ChangeShapes Go.WideShapes Go.ChangeAt Go.Deep

/-- The cells of a type that are integers (their kind) or bools (none), by their offsets. -/
def leaves (P : Program) : Nat → TypeId → Option (List (Nat × Option IntKind))
  | 0, _ => none
  | n + 1, t => match P.underlying t with
    | some .bool => some [(0, none)]
    | some (.int k) => some [(0, some k)]
    | some (.struct fs) => fs.toList.foldr (fun f acc => match leaves P n f.type, acc with
        | some l, some r => some (l.map (fun x => (f.offset + x.1, x.2)) ++ r)
        | _, _ => none) (some [])
    | some (.array m e) => (List.range m).foldr (fun i acc => match leaves P n e, acc with
        | some l, some r => some (l.map (fun x => (i * P.cellsOf e + x.1, x.2)) ++ r)
        | _, _ => none) (some [])
    | _ => none

def leafFits (cs : List Value) (x : Nat × Option IntKind) : Prop := match x.2 with
  | none => ∃ b, cs[x.1]? = some (.bool b)
  | some k => ∃ n, cs[x.1]? = some (.int k n) ∧ (Lit.int k n).wf = true

theorem sub_at {cs : List Value} {o c j : Nat} {v : Value} (h : ((cs.drop o).take c)[j]? = some v) : cs[o + j]? = some v := by
  rw [List.getElem?_take] at h
  split at h
  · rw [List.getElem?_drop] at h; exact h
  · cases h
theorem leafFits_sub {cs : List Value} {o c : Nat} {x : Nat × Option IntKind} (h : leafFits ((cs.drop o).take c) x) : leafFits cs (o + x.1, x.2) := by
  obtain ⟨i, k⟩ := x
  cases k with
  | none => obtain ⟨b, hb⟩ := h; exact ⟨b, sub_at hb⟩
  | some k => obtain ⟨n, hn, hw⟩ := h; exact ⟨n, sub_at hn, hw⟩

section
variable {H : Type} {enc : TypeId × Value → H} {P : Program} {w : World} {base : Nat} {spare : Nat → Bool} {held : Bool}
theorem leaves_fit : ∀ (n : Nat) (t : TypeId) (L : List (Nat × Option IntKind)) (fuel : Nat) (cs : List Value) (x : DataW H × List MemPlace),
    leaves P n t = some L → DataW.trod enc P w base spare held fuel t cs = some x → ∀ y ∈ L, leafFits cs y
  | 0, _, _, _, _, _, hL, _ => by simp [leaves] at hL
  | n + 1, t, L, fuel, cs, x, hL, h => by
    unfold leaves at hL
    split at hL
    · rename_i hu
      injection hL with hL; subst hL
      intro y hy
      rw [List.mem_singleton] at hy; subst hy
      cases fuel with
      | zero => simp [DataW.trod] at h
      | succ f =>
        unfold DataW.trod at h
        rw [hu] at h
        split at h <;> first | (rename_i e1 _; injection e1) | skip
        all_goals first | exact ⟨_, rfl⟩ | simp_all
    · rename_i k hu
      injection hL with hL; subst hL
      intro y hy
      rw [List.mem_singleton] at hy; subst hy
      obtain ⟨m, rfl, _, hw⟩ := DataW.trod_int hu h
      exact ⟨m, rfl, hw⟩
    · rename_i fs hu
      obtain ⟨xs, m, _, _, _, hlen, hf⟩ := DataW.trod_struct hu h
      have key : ∀ (l : List Field) (L : List (Nat × Option IntKind)), (∀ f ∈ l, ∃ y, DataW.trod enc P w base spare held m f.type ((cs.drop f.offset).take (P.cellsOf f.type)) = some y) →
          l.foldr (fun f acc => match leaves P n f.type, acc with
            | some l, some r => some (l.map (fun x => (f.offset + x.1, x.2)) ++ r)
            | _, _ => none) (some []) = some L → ∀ y ∈ L, leafFits cs y := by
        intro l
        induction l with
        | nil => intro L _ hL y hy; simp at hL; subst hL; cases hy
        | cons f l ih =>
          intro L hall hL y hy
          rw [List.foldr_cons] at hL
          split at hL
          · rename_i lf r h1 h2
            injection hL with hL; subst hL
            rcases List.mem_append.1 hy with hy | hy
            · obtain ⟨z, hz, rfl⟩ := List.mem_map.1 hy
              obtain ⟨q, hq⟩ := hall f (List.mem_cons_self)
              exact leafFits_sub (leaves_fit n f.type lf m _ q h1 hq z hz)
            · exact ih r (fun g hg => hall g (List.mem_cons_of_mem _ hg)) h2 y hy
          · cases hL
      refine key fs.toList L (fun f hf' => ?_) hL
      obtain ⟨i, hi, he⟩ := List.getElem_of_mem hf'
      have hi' : i < fs.size := by simpa using hi
      have hfi : fs[i]? = some f := by rw [Array.getElem?_eq_getElem hi']; simpa using he
      have := hf i f hfi
      rw [List.getElem?_eq_getElem (by omega)] at this
      exact ⟨_, this⟩
    · rename_i k e hu
      obtain ⟨xs, m, _, _, _, hlen, hf⟩ := DataW.trod_array hu h
      have key : ∀ (l : List Nat) (L : List (Nat × Option IntKind)), (∀ i ∈ l, ∃ y, DataW.trod enc P w base spare held m e ((cs.drop (i * P.cellsOf e)).take (P.cellsOf e)) = some y) →
          l.foldr (fun i acc => match leaves P n e, acc with
            | some l, some r => some (l.map (fun x => (i * P.cellsOf e + x.1, x.2)) ++ r)
            | _, _ => none) (some []) = some L → ∀ y ∈ L, leafFits cs y := by
        intro l
        induction l with
        | nil => intro L _ hL y hy; simp at hL; subst hL; cases hy
        | cons f l ih =>
          intro L hall hL y hy
          rw [List.foldr_cons] at hL
          split at hL
          · rename_i lf r h1 h2
            injection hL with hL; subst hL
            rcases List.mem_append.1 hy with hy | hy
            · obtain ⟨z, hz, rfl⟩ := List.mem_map.1 hy
              obtain ⟨q, hq⟩ := hall f (List.mem_cons_self)
              exact leafFits_sub (leaves_fit n e lf m _ q h1 hq z hz)
            · exact ih r (fun g hg => hall g (List.mem_cons_of_mem _ hg)) h2 y hy
          · cases hL
      refine key (List.range k) L (fun i hi => ?_) hL
      have := hf i (List.mem_range.1 hi)
      rw [List.getElem?_eq_getElem (by rw [hlen]; exact List.mem_range.1 hi)] at this
      exact ⟨_, this⟩
    · cases hL
/-- The cells of such a type, one by one. -/
def FitsL : List (Option IntKind) → List Value → Prop
  | [], vs => vs = []
  | some k :: ks, vs => ∃ n vs', vs = .int k n :: vs' ∧ (Lit.int k n).wf = true ∧ FitsL ks vs'
  | none :: ks, vs => ∃ b vs', vs = .bool b :: vs' ∧ FitsL ks vs'
theorem fitsL_of : ∀ (ks : List (Option IntKind)) (vs : List Value), vs.length = ks.length → (∀ (i : Nat) (k : Option IntKind), ks[i]? = some k → leafFits vs (i, k)) → FitsL ks vs
  | [], vs, hl, _ => List.eq_nil_of_length_eq_zero hl
  | some k :: ks, [], hl, _ => by simp at hl
  | none :: ks, [], hl, _ => by simp at hl
  | some k :: ks, v :: vs, hl, h => by
    obtain ⟨n, hn, hw⟩ := h 0 (some k) rfl
    simp only [List.getElem?_cons_zero, Option.some.injEq] at hn
    exact ⟨n, vs, by rw [hn], hw, fitsL_of ks vs (by simpa using hl) fun i k' hk => by
      have := h (i + 1) k' (by simpa using hk)
      cases k' with
      | none => exact this
      | some k' => exact this⟩
  | none :: ks, v :: vs, hl, h => by
    obtain ⟨b, hb⟩ := h 0 none rfl
    simp only [List.getElem?_cons_zero, Option.some.injEq] at hb
    exact ⟨b, vs, by rw [hb], fitsL_of ks vs (by simpa using hl) fun i k' hk => by
      have := h (i + 1) k' (by simpa using hk)
      cases k' with
      | none => exact this
      | some k' => exact this⟩
theorem fits_cells {n : Nat} {t : TypeId} {ks : List (Option IntKind)} {fuel : Nat} {cs : List Value} {x : DataW H × List MemPlace}
    (hL : leaves P n t = some (ks.zipIdx.map fun y => (y.2, y.1))) (hl : cs.length = ks.length) (h : DataW.trod enc P w base spare held fuel t cs = some x) : FitsL ks cs :=
  fitsL_of ks cs hl fun i k hk => leaves_fit n t _ fuel cs x hL h (i, k) (List.mem_map.2 ⟨(k, i), by
    rw [List.mem_iff_getElem?]
    exact ⟨i, by simp [hk]⟩, rfl⟩)

/-- A struct by value whose cells are all integers or bools. -/
theorem open_flat {r : Reach} {b0 n : Nat} {t : TypeId} {fs : Array Field} {v : Value} {d : DataW H} {p : List MemPlace} (ks : List (Option IntKind)) (hu : P.underlying t = some (.struct fs)) (hC : P.cellsOf t = ks.length)
    (hL : leaves P n t = some (ks.zipIdx.map fun y => (y.2, y.1))) (hv : Value.okWide P w r b0 t v) (h : DataW.Trod enc P w base spare held t v d p) : ∃ vs, v = .agg vs.toArray ∧ FitsL ks vs := by
  obtain ⟨cs, rfl, hsz⟩ := okWide_struct hu hv
  obtain ⟨fuel, hf⟩ := h
  refine ⟨cs.toList, by simp, fits_cells hL (by simpa using hsz.trans hC) hf⟩

theorem list_of {α β : Type} (P : β → α → Prop) : ∀ (rows : List β), (∀ r ∈ rows, ∃ x, P r x) → ∃ l : List α, l.length = rows.length ∧ ∀ (i : Nat) (r : β) (x : α), rows[i]? = some r → l[i]? = some x → P r x
  | [], _ => ⟨[], rfl, fun i r x h => by simp at h⟩
  | r :: rows, h => by
    obtain ⟨x, hx⟩ := h r (List.mem_cons_self)
    obtain ⟨l, hl, hP⟩ := list_of P rows fun r hr => h r (List.mem_cons_of_mem _ hr)
    refine ⟨x :: l, by simp [hl], fun i r' x' h1 h2 => ?_⟩
    cases i with
    | zero => simp at h1 h2; subst h1; subst h2; exact hx
    | succ i => exact hP i r' x' (by simpa using h1) (by simpa using h2)

/-- A slice of such elements: it reads as a list. 'dec': what a row of cells is as an element. -/
theorem open_rows {α : Type} {r : Reach} {b0 n : Nat} {t e : TypeId} {v : Value} {d : DataW H} {p : List MemPlace} (ks : List (Option IntKind)) (enc' : α → List Value) (ok : α → Prop)
    (hu : P.underlying t = some (.slice e)) (hC : P.cellsOf e = ks.length) (hL : leaves P n e = some (ks.zipIdx.map fun y => (y.2, y.1)))
    (hdec : ∀ vs, FitsL ks vs → ∃ x, vs = enc' x ∧ ok x) (hpos : 0 < ks.length)
    (hv : Value.okWide P w r b0 t v) (h : DataW.Trod enc P w base spare held t v d p) :
    ∃ (A : Option Addr) (c : Nat) (l : List α), v = .slice A l.length c ∧ l.length ≤ c ∧ c ≤ maxLen ∧ (∀ x ∈ l, ok x) ∧ Rd enc' ks.length w w.heap.size A l := by
  obtain ⟨a0, len, cap, rfl⟩ := okWide_slice hu hv
  obtain ⟨fuel, hf⟩ := h
  rcases open_slice hu hf with ⟨hcs, _⟩ | ⟨a, len', cap', m, n', D, Pl, hcs, hb, hlc, hcm, hmm, _, hel⟩
  · simp only [Value.cells, List.cons.injEq, Value.slice.injEq, and_true] at hcs
    obtain ⟨rfl, rfl, rfl⟩ := hcs
    exact ⟨none, 0, [], rfl, Nat.le_refl _, by simp [maxLen], fun x hx => (by cases hx), Rd.nil⟩
  · simp only [Value.cells, List.cons.injEq, Value.slice.injEq, and_true] at hcs
    obtain ⟨rfl, rfl, rfl⟩ := hcs
    have hlm : len ≤ m := by rw [hmm]; split <;> omega
    obtain ⟨l, hll, hP⟩ := list_of (fun (i : Nat) (x : α) => ok x ∧ w.cells? base (a.add (i * ks.length)) ks.length = some (enc' x)) (List.range len) (fun i hi => by
      have hi' := List.mem_range.1 hi
      obtain ⟨cs', hc, ht⟩ := hel i (by omega)
      rw [hC] at hc
      obtain ⟨_, hcl, _⟩ := World.cells?_some hc
      obtain ⟨x, hx, hok⟩ := hdec cs' (fits_cells hL hcl ht)
      exact ⟨x, hok, by rw [hc, hx]⟩)
    simp only [List.length_range] at hll
    subst hll
    refine ⟨some a, cap, l, rfl, hlc, hcm, fun x hx => ?_, fun hn => ?_⟩
    · obtain ⟨i, hi, rfl⟩ := List.getElem_of_mem hx
      exact (hP i i _ (by simp [hi]) (List.getElem?_eq_getElem hi)).1
    · have hl0 : 0 < l.length := List.length_pos_iff.2 hn
      have h0 := (hP 0 0 l[0] (by simp [hl0]) (List.getElem?_eq_getElem hl0)).2
      obtain ⟨_, hcl0, hat0⟩ := World.cells?_some h0
      have hc0 := hat0 0 hpos
      rw [List.getElem?_eq_getElem (by omega)] at hc0
      have hz : a.add (0 * ks.length) = a := by simp [Addr.add]
      rw [hz] at hc0
      obtain ⟨b, off, sp⟩ := a
      have hadd : (⟨b, off, sp⟩ : Addr).add 0 = ⟨b, off, sp⟩ := by simp [Addr.add]
      rw [hadd] at hc0
      have hsp : sp = none := by
        cases sp with
        | none => rfl
        | some s => simp [World.cell?] at hc0; split at hc0 <;> simp_all
      subst hsp
      have hbl : b < w.heap.size := by
        rcases Nat.lt_or_ge b w.heap.size with h1 | h1
        · exact h1
        · simp [World.cell?, Array.getElem?_eq_none h1] at hc0
      refine ⟨b, off, rfl, hbl, fun k x hx j u hu => ?_⟩
      obtain ⟨hk, _⟩ := List.getElem?_eq_some_iff.1 hx
      obtain ⟨_, hcl, hat⟩ := World.cells?_some (hP k k x (by simp [hk]) hx).2
      have hj : j < ks.length := by
        have := (List.getElem?_eq_some_iff.1 hu).1
        omega
      have := hat j hj
      rw [hu] at this
      rw [← this]
      congr 1
      unfold Addr.add
      split <;> split <;> simp_all [Nat.add_assoc]
end
end Go.Proofs.Ytffehibdeogjeaa

/- Appending one element to a slice that the call itself made: the kit's law, said of lists of elements. No condition. -/
namespace Go.Proofs.Ytffehibdeogjeaa
open Go.RowKit

theorem below_of_grown {base : Nat} {w w' : World} {row : Option Nat} (hg : w.grownBy w' row) (hr : ∀ k, row = some k → base ≤ k) (hb : base ≤ w.heap.size) : Below base w w' :=
  (Below.refl base w).grown hg hb hr

theorem wpList_append_elem {P : Program} {w : World} {ops : Array Oper} {rest : List Oper} {o : Oper} {a : Act} {Q : Exit → Act → World → Prop} (hgd : o.guard = none) (s x : Operand) (t : TypeId)
    (ho : o.op = .call { callee := .builtin .append, args := #[s, x], argTypes := #[t, t] })
    (base : Nat) (e : TypeId) (i : TypeInfo) (z : Value) (size bytes : Nat) (ht : P.underlying t = some (.slice e)) (hi : P.info? e = some i) (hz : i.zero = some z)
    (hsize : i.size = size) (hby : i.bytes = bytes) (hzs : z.cells.size = size) (hsz : 0 < size)
    {α : Type} (enc : α → List Value) (henc : ∀ y, (enc y).length = size) (v : Value) (l : List α) (y : α) (hs : a.eval s = v) (hown : Own enc size w base e v l)
    (ad : Addr) (c : Nat) (hx : a.eval x = .slice (some ad) 1 c) (hnews : ∀ j u, (enc y)[j]? = some u → w.cell? (ad.add j) = some u) (h1 : ∀ u ∈ enc y, u.oneCell' = true)
    (h63 : l.length + 1 ≤ maxLen) (hbytes : (l.length + 1) * bytes ≤ 140737488355328) (hbase : base ≤ w.heap.size)
    (h : ∀ v' w', Own enc size w' base e v' (l ++ [y]) → w.grownBy w' v.ownBlock → Below base w w' → wpList P ops Q rest (a.put o.dst v') w') : wpList P ops Q (o :: rest) a w :=
  wpList_append_own w hgd s x t ho base e i z size bytes ht hi hz hsize hby hzs hsz v l.length (l.flatMap enc) hs hown ad 1 c (enc y) hx (by rw [henc]; omega) hnews h1 h63 hbytes hbase
    fun v' w' h2 h3 _ => h v' w' (by unfold Own; simpa using h2) h3 (below_of_grown h3 (fun k hk => (World.ownsRow.lt hown k hk).1) hbase)
end Go.Proofs.Ytffehibdeogjeaa

/- Rows of elements of several cells that the call itself made: an element stored, a row cut, a row made and copied into. No condition. -/
namespace Go.Proofs.Ytffehibdeogjeaa
open Go.RowKit

/-- Some cells stored one after the other. -/
def putW (w : World) (g o : Nat) : Nat → List Value → World
  | _, [] => w
  | j, u :: us => putW (w.setCell ⟨g, o + j, none⟩ u) g o (j + 1) us
def putL (xs : List Value) (o : Nat) : Nat → List Value → List Value
  | _, [] => xs
  | j, u :: us => putL (xs.set (o + j) u) o (j + 1) us
theorem putL_append_left (xs ys : List Value) (o : Nat) : ∀ (us : List Value) (j : Nat), o + j + us.length ≤ xs.length → putL (xs ++ ys) o j us = putL xs o j us ++ ys
  | [], _, _ => rfl
  | u :: us, j, h => by
    simp only [List.length_cons] at h
    unfold putL
    rw [List.set_append_left _ _ (by omega), putL_append_left _ ys o us (j + 1) (by simp; omega)]
theorem putL_append_right (xs ys : List Value) (o : Nat) : ∀ (us : List Value) (j : Nat), putL (xs ++ ys) (xs.length + o) j us = xs ++ putL ys o j us
  | [], _ => rfl
  | u :: us, j => by
    unfold putL
    rw [List.set_append_right _ _ (by omega), show xs.length + o + j - xs.length = o + j from by omega]
    exact putL_append_right xs _ o us (j + 1)
theorem putL_all : ∀ (us pre xs : List Value), us.length = xs.length → putL (pre ++ xs) 0 pre.length us = pre ++ us
  | [], pre, xs, h => by
    obtain rfl : xs = [] := List.eq_nil_of_length_eq_zero h.symm
    rfl
  | u :: us, pre, [], h => by simp at h
  | u :: us, pre, x :: xs, h => by
    unfold putL
    rw [List.set_append_right _ _ (by omega), show 0 + pre.length - pre.length = 0 from by omega]
    have e : pre ++ (x :: xs).set 0 u = (pre ++ [u]) ++ xs := by simp
    rw [e]
    have := putL_all us (pre ++ [u]) xs (by simpa using h)
    rw [show (pre ++ [u]).length = pre.length + 1 by simp] at this
    rw [this]
    simp

section
variable {α : Type} {enc : α → List Value} {sz : Nat}
theorem putL_flat (henc : ∀ x, (enc x).length = sz) (x : α) : ∀ (l : List α) (i : Nat), i < l.length → putL (l.flatMap enc) (i * sz) 0 (enc x) = (l.set i x).flatMap enc
  | [], _, h => by simp at h
  | y :: l, 0, _ => by
    rw [List.flatMap_cons, Nat.zero_mul, putL_append_left _ _ _ _ _ (by simp [henc]), List.set_cons_zero, List.flatMap_cons]
    have := putL_all (enc x) [] (enc y) (by rw [henc, henc])
    simp only [List.nil_append, List.length_nil] at this
    rw [this]
  | y :: l, i + 1, h => by
    have e : (i + 1) * sz = (enc y).length + i * sz := by rw [henc, Nat.add_mul]; omega
    rw [List.flatMap_cons, e, putL_append_right, putL_flat henc x l i (by simpa using h), List.set_cons_succ, List.flatMap_cons]

theorem row_put {base : Nat} {e : TypeId} {g n cap : Nat} (o : Nat) : ∀ (us xs : List Value) (j : Nat) (w : World), w.ownsRow base e sz (.slice (some ⟨g, 0, none⟩) n cap) n xs →
    (putW w g o j us).ownsRow base e sz (.slice (some ⟨g, 0, none⟩) n cap) n (putL xs o j us) ∧ w.grownBy (putW w g o j us) (some g)
  | [], xs, j, w, h => ⟨h, ⟨rfl, rfl, rfl, Nat.le_refl _, fun _ _ _ => rfl⟩⟩
  | u :: us, xs, j, w, h => by
    obtain ⟨h1, h2⟩ := World.ownsRow.stored h (o + j) u
    obtain ⟨h3, h4⟩ := row_put o us _ (j + 1) _ h1
    exact ⟨h3, ⟨h4.os.trans h2.os, h4.tape.trans h2.tape, h4.output.trans h2.output, Nat.le_trans h2.size h4.size, fun k hk hne => (h4.block k (Nat.lt_of_lt_of_le hk h2.size) hne).trans (h2.block k hk hne)⟩⟩
/-- An element stored. -/
theorem Own.set {w : World} {base : Nat} {e : TypeId} {g n cap : Nat} {l : List α} (henc : ∀ x, (enc x).length = sz) (h : Own enc sz w base e (.slice (some ⟨g, 0, none⟩) n cap) l) (hn : n = l.length) (i : Nat) (hi : i < l.length) (x : α) :
    Own enc sz (putW w g (i * sz) 0 (enc x)) base e (.slice (some ⟨g, 0, none⟩) n cap) (l.set i x) ∧ w.grownBy (putW w g (i * sz) 0 (enc x)) (some g) := by
  subst hn
  obtain ⟨h1, h2⟩ := row_put (sz := sz) (i * sz) (enc x) _ 0 w h
  rw [putL_flat henc x l i hi] at h1
  refine ⟨?_, h2⟩
  unfold Own
  rw [List.length_set]
  exact h1
/-- A row cut at its end. -/
theorem Own.take {w : World} {base : Nat} {e : TypeId} {g n cap : Nat} {l : List α} (henc : ∀ x, (enc x).length = sz) (h : Own enc sz w base e (.slice (some ⟨g, 0, none⟩) n cap) l) (m : Nat) (hm : m ≤ l.length) :
    Own enc sz w base e (.slice (some ⟨g, 0, none⟩) m cap) (l.take m) := by
  have hl : (l.take m).length = m := by rw [List.length_take]; omega
  have hflat : ((l.take m).flatMap enc) = (l.flatMap enc).take (m * sz) := by
    have e : l.flatMap enc = (l.take m).flatMap enc ++ (l.drop m).flatMap enc := by rw [← List.flatMap_append, List.take_append_drop]
    rw [e, List.take_left' (by rw [flat_length henc, hl])]
  unfold Own
  rw [hl]
  refine ⟨by rw [flat_length henc, hl], ?_⟩
  rcases h.2 with ⟨h', h0⟩ | ⟨g', cap', cur, h', hb, hg, hnc, hcm, hcs, htake⟩
  · cases h'
  · simp only [Value.slice.injEq, Option.some.injEq, Addr.mk.injEq, and_true] at h'
    obtain ⟨rfl, _, rfl⟩ := h'
    refine .inr ⟨g, cap, cur, rfl, hb, hg, by omega, hcm, hcs, ?_⟩
    rw [hflat, ← htake, List.take_take, Nat.min_eq_left (Nat.mul_le_mul_right sz hm)]
end

/-- A slice literal: a new block that holds the list. -/
theorem Own.made {α : Type} {enc : α → List Value} {sz : Nat} (henc : ∀ y, (enc y).length = sz) (w : World) (base : Nat) (e : TypeId) (l : List α) (g : Nat) (hg : g = w.heap.size) (hb : base ≤ g) (hm : l.length ≤ maxLen) :
    Own enc sz (w.alloc (.cells (l.flatMap enc).toArray e)) base e (.slice (some ⟨g, 0, none⟩) l.length l.length) l := by
  subst hg
  have hf := flat_length henc l
  refine ⟨hf, .inr ⟨w.heap.size, l.length, (l.flatMap enc).toArray, rfl, hb, ?_, Nat.le_refl _, hm, by simpa using hf, ?_⟩⟩
  · show (w.heap.push _)[w.heap.size]? = _
    simp
  · rw [List.take_of_length_le (by simp [hf])]

/-! ### copy -/
variable {P : Program}
theorem run_copy_cells (w : World) (dT sT ty elem : TypeId) (g dLen dCap : Nat) (a : Addr) (sLen sCap : Nat) (cur : Array Value) (t : TypeId) (cs : List Value) (size : Nat)
    (hu : P.underlying dT = some (.slice elem)) (hs : (P.info? elem).map (·.size) = some size)
    (hg : w.heap[g]? = some (.cells cur t (0, 0))) (hn : cs.length = Nat.min sLen dLen * size)
    (hsrc : ∀ j v, cs[j]? = some v → w.cell? (a.add j) = some v) (hfit : cs.length ≤ cur.size) (h1 : ∀ v ∈ cs, v.oneCell' = true) :
    (Builtin.copy_ #[dT, sT] ty #[.slice (some ⟨g, 0, none⟩) dLen dCap, .slice (some a) sLen sCap]).run P w =
      .ok (goInt (Nat.min sLen dLen : Nat)) (w.setRow g (cs ++ cur.toList.drop cs.length).toArray) := by
  have hl := run_loadCells_list (P := P) w a cs hsrc
  have hst := run_storeCells_at P g 0 t cs 0 cur w hg (by simpa using hfit) h1
  cases hq : P.info? elem with
  | none => simp [hq] at hs
  | some i =>
    have hi : i.size = size := by simpa [hq] using hs
    rw [hn] at hl
    simp [Builtin.copy_, run_underlying hu, Builtin.lenOf, Builtin.firstCells, sizeOf, typeInfo, hq, hi, hl, hst]
end Go.Proofs.Ytffehibdeogjeaa

/- Slices of integers. No condition. -/
namespace Go.Proofs.Ytffehibdeogjeaa
open Go.RowKit

def ienc (x : Int) : List Value := [.int .i64 x]
/-- A new block of integers, as a slice that reads. -/
theorem rd_new (w : World) (xs : List Int) (t : TypeId) : Rd ienc 1 (w.alloc (.cells (xs.map (Value.int .i64)).toArray t)) (w.heap.size + 1) (some ⟨w.heap.size, 0, none⟩) xs := fun _ => by
  refine ⟨_, _, rfl, by omega, fun k x hx j u hu => ?_⟩
  rw [World.cell?_alloc_at _ _ _ _ rfl]
  match j, hu with
  | 0, hu => simp [ienc] at hu; subst hu; simp [hx]
end Go.Proofs.Ytffehibdeogjeaa

/- Regions that draw their order, walked by hand: an operation taken first, one that is not wanted, the only one that may come up. No condition. -/
namespace Go.Proofs.Ytffehibdeogjeaa
open Go Go.RowKit
variable {P : Program} {md : Region.Mode} {ops : Array Oper} {Q : Exit → Act → World → Prop} {S : World → Prop}
theorem hTake (i : Nat) {fuel : Nat} {listed : Array Bool} {a : Act} {w : World}
    (hs : Region.noSelect ops = true) (hf : Region.free md ops listed i = true) (hr : (Region.ready md ops listed).contains i = true) (hlt : i < ops.size) (hS : S w)
    (h : ∀ oi, ops[i]? = some oi → Region.wanted oi (yielded ops a.tmps) = true ∧ ∃ v, (∀ w, S w → (execOp a.eval oi).run P w = .ok (.value v) w) ∧ (∀ c a w, Q (.panic c) (a.put oi.dst v) w → Q (.panic c) a w) ∧
      wpAnyH P md ops Q S fuel (listed.setIfInBounds i true) (a.put oi.dst v) w) : wpAnyH P md ops Q S (fuel + 1) listed a w := by
  obtain ⟨h1, v, h2, h3, h4⟩ := h _ (Array.getElem?_eq_getElem hlt)
  exact wpAnyH_take (Array.getElem?_eq_getElem hlt) hs hf hr h3 (.inl ⟨h1, h2⟩) hS h4
theorem hSkip (i : Nat) {fuel : Nat} {listed : Array Bool} {a : Act} {w : World}
    (hs : Region.noSelect ops = true) (hf : Region.free md ops listed i = true) (hr : (Region.ready md ops listed).contains i = true) (hlt : i < ops.size) (hS : S w)
    (h : ∀ oi, ops[i]? = some oi → Region.wanted oi (yielded ops a.tmps) = false ∧ (∀ c a w, Q (.panic c) (a.put oi.dst undef) w → Q (.panic c) a w) ∧
      wpAnyH P md ops Q S fuel (listed.setIfInBounds i true) (a.put oi.dst undef) w) : wpAnyH P md ops Q S (fuel + 1) listed a w := by
  obtain ⟨h1, h3, h4⟩ := h _ (Array.getElem?_eq_getElem hlt)
  exact wpAnyH_take (Array.getElem?_eq_getElem hlt) hs hf hr h3 (.inr ⟨h1, rfl⟩) hS h4
theorem hOnly (i : Nat) {fuel : Nat} {listed : Array Bool} {a : Act} {w : World} (hr : Region.ready md ops listed = [i]) (hlt : i < ops.size)
    (h : ∀ o, ops[i]? = some o → ∀ K' : Act → World → Prop, Shut (∀ a w, S w → (S w → wpAnyH P md ops Q S fuel (listed.setIfInBounds i true) a w) → K' a w) → if Region.wanted o (yielded ops a.tmps) = true then Oper.wp P o a w K' Q else K' (a.put o.dst undef) w) :
    wpAnyH P md ops Q S (fuel + 1) listed a w :=
  wpAnyH_all hr (by simp) (AllReadyH.cons (Array.getElem?_eq_getElem hlt) (h _ (Array.getElem?_eq_getElem hlt)) AllReadyH.nil)
/-- One of several that may come up. -/
theorem hCons (i : Nat) {fuel : Nat} {listed : Array Bool} {a : Act} {w : World} {rs : List Nat} (hlt : i < ops.size)
    (h : ∀ o, ops[i]? = some o → ∀ K' : Act → World → Prop, Shut (∀ a w, S w → (S w → wpAnyH P md ops Q S fuel (listed.setIfInBounds i true) a w) → K' a w) → if Region.wanted o (yielded ops a.tmps) = true then Oper.wp P o a w K' Q else K' (a.put o.dst undef) w)
    (hs : AllReadyH P md ops Q S fuel listed a w rs) : AllReadyH P md ops Q S fuel listed a w (i :: rs) :=
  AllReadyH.cons (Array.getElem?_eq_getElem hlt) (h _ (Array.getElem?_eq_getElem hlt)) hs
theorem Loc.belowB {w w' : World} {B : Nat} (hb : Below B w w') : ∀ {l : List (Nat × List Value)}, (∀ q ∈ l, q.1 < B) → Loc w l → Loc w' l
  | [], _, _ => trivial
  | (b, _) :: _, hq, ⟨h1, h2, h3, h4⟩ => ⟨Nat.lt_of_lt_of_le h1 hb.size, fun i => (hb.cell (p := ⟨b, i, none⟩) (hq _ (List.mem_cons_self))).trans (h2 i), fun i => (hb.frozen (p := ⟨b, i, none⟩) (hq _ (List.mem_cons_self))).trans (h3 i), h4.belowB hb (fun q h => hq q (List.mem_cons_of_mem _ h))⟩
/-- A step that turns blocks that were made later alone. -/
theorem Env.kept {w0 W0 W W' : World} {L : List (Nat × List Value)} (h0 : Env w0 L W0) (h : Env w0 L W) (hb : Below W0.heap.size W W') : Env w0 L W' :=
  ⟨h.1.trans (hb.mono h0.1.size), h.2.belowB hb h0.lt'⟩
end Go.Proofs.Ytffehibdeogjeaa

/- Small lemmas on rows of the call's own: shapes, appends, copies, what is kept. No condition. -/
namespace Go.Proofs.Ytffehibdeogjeaa
open Go.RowKit Go.ChangeShapes Go.WideShapes Go.ChangeAt Go.Deep

theorem grown_refl (w : World) (r : Option Nat) : w.grownBy w r := ⟨rfl, rfl, rfl, Nat.le_refl _, fun _ _ _ => rfl⟩
theorem grown_trans {w w1 w2 : World} {r : Option Nat} (h1 : w.grownBy w1 r) (h2 : w1.grownBy w2 r) : w.grownBy w2 r :=
  ⟨h2.os.trans h1.os, h2.tape.trans h1.tape, h2.output.trans h1.output, Nat.le_trans h1.size h2.size, fun k hk hne => (h2.block k (Nat.lt_of_lt_of_le hk h1.size) hne).trans (h1.block k hk hne)⟩
/-- A slice that reads gives its cells, all of them. -/
theorem rd_flat {α : Type} {enc : α → List Value} {sz : Nat} {w : World} {B : Nat} {b off : Nat} {l : List α} (henc : ∀ x, (enc x).length = sz) (h : Rd enc sz w B (some ⟨b, off, none⟩) l) :
    ∀ j u, (l.flatMap enc)[j]? = some u → w.cell? ((⟨b, off, none⟩ : Addr).add j) = some u := by
  intro j u hj
  have hlen : j < l.length * sz := by rw [← flat_length henc]; exact (List.getElem?_eq_some_iff.1 hj).1
  have hsz : 0 < sz := by
    rcases Nat.eq_zero_or_pos sz with h0 | h0
    · subst h0; simp at hlen
    · exact h0
  have hk : j / sz < l.length := Nat.div_lt_of_lt_mul (by rw [Nat.mul_comm]; exact hlen)
  obtain ⟨x, hx⟩ : ∃ x, l[j / sz]? = some x := ⟨_, List.getElem?_eq_getElem hk⟩
  obtain ⟨b', off', e, _, hc⟩ := h.at_ hx
  simp only [Option.some.injEq, Addr.mk.injEq, and_true] at e
  obtain ⟨rfl, rfl⟩ := e
  have hmod := Nat.mod_lt j hsz
  have hje : j / sz * sz + j % sz = j := by rw [Nat.mul_comm]; exact Nat.div_add_mod j sz
  have hu : (enc x)[j % sz]? = some u := by
    obtain ⟨v, hv⟩ : ∃ v, (enc x)[j % sz]? = some v := ⟨_, List.getElem?_eq_getElem (by rw [henc]; exact hmod)⟩
    have := flat_at henc l (j / sz) (j % sz) x v hx hv
    rw [hje, hj] at this
    rw [hv, this]
  have := hc (j % sz) u hu
  rw [Nat.add_assoc, hje] at this
  rw [← this]
  congr 1
  unfold Addr.add; split <;> simp_all
theorem rd_grown {α : Type} {enc : α → List Value} {sz : Nat} {w W : World} {A : Option Addr} {l : List α} (h : Rd enc sz w w.heap.size A l) (hb : Below w.heap.size w W) : Rd enc sz W W.heap.size A l := h.grow hb
theorem own_shape {α : Type} {enc : α → List Value} {sz : Nat} {w : World} {base : Nat} {e : TypeId} {v : Value} {l : List α} (h : Own enc sz w base e v l) : ∃ A c, v = .slice A l.length c := by
  rcases h.2 with ⟨h', h0⟩ | ⟨g, cap, cur, h', _⟩
  · exact ⟨none, 0, by rw [h', h0]⟩
  · exact ⟨_, _, h'⟩
theorem own_shape_n {α : Type} {enc : α → List Value} {sz n : Nat} {w : World} {base : Nat} {e : TypeId} {v : Value} {l : List α} (h : Own enc sz w base e v l) (hn : l.length = n) : ∃ A c, v = .slice A n c ∧ n ≤ c := by
  subst hn
  rcases h.2 with ⟨h', h0⟩ | ⟨g, cap, cur, h', _, _, hc, _⟩
  · exact ⟨none, 0, by rw [h', h0], by omega⟩
  · exact ⟨_, _, h', hc⟩
theorem own_some {α : Type} {enc : α → List Value} {sz : Nat} {w : World} {base : Nat} {e : TypeId} {v : Value} {l : List α} (h : Own enc sz w base e v l) (hv : v ≠ .slice none 0 0) : ∃ g cap, v = .slice (some ⟨g, 0, none⟩) l.length cap ∧ l.length ≤ cap ∧ g < w.heap.size := by
  rcases h.2 with ⟨h', _⟩ | ⟨g, cap, cur, h', hb, hg, hc, _⟩
  · exact absurd h' hv
  · refine ⟨g, cap, h', hc, ?_⟩
    rcases Nat.lt_or_ge g w.heap.size with hlt | hge
    · exact hlt
    · rw [Array.getElem?_eq_none hge] at hg; cases hg
/-- A list copied behind an empty one that was made: it lies at an address. -/
theorem wpList_append_copy {P : Program} {w : World} {ops : Array Oper} {rest : List Oper} {o : Oper} {a : Act} {Q : Exit → Act → World → Prop} (hgd : o.guard = none) (s x : Operand) (t : TypeId)
    (ho : o.op = .call { callee := .builtin .append, args := #[s, x], argTypes := #[t, t] })
    (base : Nat) (e : TypeId) (i : TypeInfo) (z : Value) (size bytes : Nat) (ht : P.underlying t = some (.slice e)) (hi : P.info? e = some i) (hz : i.zero = some z)
    (hsize : i.size = size) (hby : i.bytes = bytes) (hzs : z.cells.size = size) (hsz : 0 < size)
    {α : Type} (enc : α → List Value) (henc : ∀ y, (enc y).length = size) (g0 c0 : Nat) (ys : List α) (hs : a.eval s = .slice (some ⟨g0, 0, none⟩) 0 c0) (hown : Own enc size w base e (.slice (some ⟨g0, 0, none⟩) 0 c0) ([] : List α))
    (A : Option Addr) (n c : Nat) (hx : a.eval x = .slice A n c) (hnl : ys.length = n) (hc : A = none → c = 0) (hrd : Rd enc size w w.heap.size A ys) (h1 : ∀ u ∈ ys.flatMap enc, u.oneCell' = true)
    (h63 : n ≤ maxLen) (hbytes : n * bytes ≤ 140737488355328) (hbase : base ≤ w.heap.size)
    (h : ∀ g cap w', Own enc size w' base e (.slice (some ⟨g, 0, none⟩) n cap) ys → n ≤ cap → g < w'.heap.size → Below base w w' → wpList P ops Q rest (a.put o.dst (.slice (some ⟨g, 0, none⟩) n cap)) w') : wpList P ops Q (o :: rest) a w := by
  cases A with
  | none =>
    obtain rfl := hc rfl
    have hy : ys = [] := by
      rcases List.eq_nil_or_concat ys with h | ⟨l', x, h⟩
      · exact h
      · obtain ⟨_, _, e, _⟩ := hrd (by rw [h]; simp)
        cases e
    subst hy
    obtain rfl : n = 0 := hnl.symm
    obtain ⟨g, cap, hv, hcc, hg⟩ := own_some hown (by simp)
    simp only [Value.slice.injEq, Option.some.injEq, Addr.mk.injEq, and_true] at hv
    obtain ⟨rfl, -, rfl⟩ := hv
    exact wpList_append_own_none hgd s x t ho base e i size ht hi _ 0 [] hs hown hx (h _ _ _ hown hcc hg (Below.refl _ _))
  | some ad =>
    refine wpList_plain hgd fun K hK => ?_
    have hnews : ∀ j u, (ys.flatMap enc)[j]? = some u → w.cell? (ad.add j) = some u := fun j u hj => by
      by_cases hy : ys = []
      · subst hy; simp at hj
      · obtain ⟨b, off, e, _, _⟩ := hrd hy
        simp only [Option.some.injEq] at e
        subst e
        exact rd_flat henc hrd j u hj
    obtain ⟨v', w', hrun, r1, r2, r3⟩ := run_append_own (P := P) w base t o.type e i z size bytes ht hi hz hsize hby hzs hsz _ 0 [] hown ad n c (ys.flatMap enc) (by rw [flat_length henc, hnl]) hnews h1 (by omega) (by rw [Nat.zero_add]; exact hbytes) hbase
    have hv' : v' ≠ .slice none 0 0 := fun e => by have := (r3.1 e).1; cases this
    have hown' : Own enc size w' base e v' ys := by unfold Own; simpa [hnl] using r1
    obtain ⟨g, cap, rfl, hcc, hg⟩ := own_some hown' hv'
    rw [hnl] at hown' hcc
    unfold Oper.wp
    simp [execOp, ho, resolve, invoke, builtin, hs, hx, hrun, Result.andThen]
    refine hK _ _ ?_
    rw [hnl]
    exact h _ _ _ hown' hcc hg (below_of_grown r2 (fun k hk => (World.ownsRow.lt hown k hk).1) hbase)
theorem own_shape_z {α : Type} {enc : α → List Value} {sz n : Nat} {w : World} {base : Nat} {e : TypeId} {v : Value} {l : List α} (h : Own enc sz w base e v l) (hn : l.length = n) : ∃ A c, v = .slice A n c ∧ n ≤ c ∧ (A = none → c = 0) := by
  subst hn
  rcases h.2 with ⟨h', h0⟩ | ⟨g, cap, cur, h', _, _, hc, _⟩
  · exact ⟨none, 0, by rw [h', h0], by omega, fun _ => rfl⟩
  · exact ⟨_, _, h', hc, fun e => by cases e⟩
theorem rd_none {α : Type} {enc : α → List Value} {sz : Nat} {w : World} {B : Nat} {l : List α} (h : Rd enc sz w B none l) : l = [] := by
  rcases List.eq_nil_or_concat l with h' | ⟨l', x, h'⟩
  · exact h'
  · obtain ⟨_, _, e, _⟩ := h (by rw [h']; simp)
    cases e
/-- A list appended to a row of the call's own that lies at an address. -/
theorem wpList_append_more {P : Program} {w : World} {ops : Array Oper} {rest : List Oper} {o : Oper} {a : Act} {Q : Exit → Act → World → Prop} (hwd : Region.wanted o (yielded ops a.tmps) = true) (s x : Operand) (t : TypeId)
    (ho : o.op = .call { callee := .builtin .append, args := #[s, x], argTypes := #[t, t] })
    (base : Nat) (e : TypeId) (i : TypeInfo) (z : Value) (size bytes : Nat) (ht : P.underlying t = some (.slice e)) (hi : P.info? e = some i) (hz : i.zero = some z)
    (hsize : i.size = size) (hby : i.bytes = bytes) (hzs : z.cells.size = size) (hsz : 0 < size)
    {α : Type} (enc : α → List Value) (henc : ∀ y, (enc y).length = size) (g0 c0 n0 m : Nat) (xs ys zs : List α) (hs : a.eval s = .slice (some ⟨g0, 0, none⟩) n0 c0) (hown : Own enc size w base e (.slice (some ⟨g0, 0, none⟩) n0 c0) xs) (hn0 : xs.length = n0)
    (A : Option Addr) (n c : Nat) (hx : a.eval x = .slice A n c) (hnl : ys.length = n) (hc : A = none → c = 0) (hrd : Rd enc size w w.heap.size A ys) (h1 : ∀ u ∈ ys.flatMap enc, u.oneCell' = true) (hzz : xs ++ ys = zs) (hm : zs.length = m)
    (h63 : m ≤ maxLen) (hbytes : m * bytes ≤ 140737488355328) (hbase : base ≤ w.heap.size)
    (h : ∀ g cap w', Own enc size w' base e (.slice (some ⟨g, 0, none⟩) m cap) zs → m ≤ cap → g < w'.heap.size → Below base w w' → wpList P ops Q rest (a.put o.dst (.slice (some ⟨g, 0, none⟩) m cap)) w') : wpList P ops Q (o :: rest) a w := by
  subst hzz
  have hmm : m = n0 + n := by rw [← hm, List.length_append, hn0, hnl]
  cases A with
  | none =>
    obtain rfl := hc rfl
    obtain rfl := rd_none hrd
    obtain rfl : n = 0 := hnl.symm
    obtain ⟨g, cap, hv, hcc, hg⟩ := own_some hown (by simp)
    simp only [Value.slice.injEq, Option.some.injEq, Addr.mk.injEq, and_true] at hv
    obtain ⟨rfl, -, rfl⟩ := hv
    obtain rfl : m = n0 := by omega
    rw [List.append_nil] at h
    rw [hn0] at hcc
    subst hn0
    refine BigFrame.wpList_want hwd fun K hK => ?_
    have hrun := run_append_owned_none (P := P) (w := w) base t o.type e i size ht hi _ xs.length (xs.flatMap enc) hown
    unfold Oper.wp
    simp [execOp, ho, resolve, invoke, builtin, hs, hx, hrun, Result.andThen]
    exact hK _ _ (h _ _ _ hown hcc hg (Below.refl _ _))
  | some ad =>
    refine BigFrame.wpList_want hwd fun K hK => ?_
    have hnews : ∀ j u, (ys.flatMap enc)[j]? = some u → w.cell? (ad.add j) = some u := fun j u hj => by
      by_cases hy : ys = []
      · subst hy; simp at hj
      · obtain ⟨b, off, e, _, _⟩ := hrd hy
        simp only [Option.some.injEq] at e
        subst e
        exact rd_flat henc hrd j u hj
    subst hn0
    obtain ⟨v', w', hrun, r1, r2, r3⟩ := run_append_own (P := P) w base t o.type e i z size bytes ht hi hz hsize hby hzs hsz _ xs.length (xs.flatMap enc) hown ad n c (ys.flatMap enc) (by rw [flat_length henc, hnl]) hnews h1 (by omega) (by rw [← hmm]; exact hbytes) hbase
    have hv' : v' ≠ .slice none 0 0 := fun e => by have := (r3.1 e).1; cases this
    have hown' : Own enc size w' base e v' (xs ++ ys) := by unfold Own; simpa [hnl] using r1
    obtain ⟨g, cap, rfl, hcc, hg⟩ := own_some hown' hv'
    rw [hm] at hown' hcc
    unfold Oper.wp
    simp [execOp, ho, resolve, invoke, builtin, hs, hx, hrun, Result.andThen]
    refine hK _ _ ?_
    have e2 : xs.length + ys.length = m := by rw [← hm, List.length_append]
    first | (rw [e2]; exact h _ _ _ hown' hcc hg (below_of_grown r2 (fun k hk => (World.ownsRow.lt hown k hk).1) hbase)) | exact h _ _ _ hown' hcc hg (below_of_grown r2 (fun k hk => (World.ownsRow.lt hown k hk).1) hbase)
/-- A block of no cells is an empty row. -/
theorem own_empty {α : Type} {enc : α → List Value} {sz : Nat} {w : World} {base : Nat} {e : TypeId} {g : Nat} (hg : w.heap[g]? = some (.cells #[] e (0, 0))) (hb : base ≤ g) : Own enc sz w base e (.slice (some ⟨g, 0, none⟩) 0 0) ([] : List α) :=
  ⟨by simp, .inr ⟨g, 0, #[], rfl, hb, hg, Nat.le_refl _, by simp [maxLen], by simp, by simp⟩⟩
theorem own_drew {α : Type} {enc : α → List Value} {sz : Nat} {w : World} {base : Nat} {e : TypeId} {v : Value} {l : List α} (h : Own enc sz w base e v l) : Own enc sz w.drew base e v l := h
theorem putW_grown (b o : Nat) : ∀ (us : List Value) (j : Nat) (W : World), W.grownBy (putW W b o j us) (some b)
  | [], _, W => grown_refl W _
  | u :: us, j, W => by
    refine grown_trans (w1 := W.setCell ⟨b, o + j, none⟩ u) ⟨rfl, rfl, rfl, by simp, fun k hk hne => Below.heap_setCell _ _ _ _ (fun e => hne (by rw [e]))⟩ (putW_grown b o us (j + 1) _)
theorem Loc.grown {w w' : World} {r : Option Nat} (hg : w.grownBy w' r) : ∀ {L : List (Nat × List Value)}, (∀ q ∈ L, some q.1 ≠ r) → Loc w L → Loc w' L
  | [], _, _ => trivial
  | (b, _) :: _, hq, ⟨h1, h2, h3, h4⟩ => by
    have e : w'.heap[b]? = w.heap[b]? := hg.block b h1 (hq _ (List.mem_cons_self))
    exact ⟨Nat.lt_of_lt_of_le h1 hg.size, fun i => (World.cell?_of_block (a := ⟨b, i, none⟩) e).trans (h2 i), fun i => (World.frozen?_of_block (a := ⟨b, i, none⟩) e).trans (h3 i), h4.grown hg (fun q h => hq q (List.mem_cons_of_mem _ h))⟩
theorem own_apart {α : Type} {enc : α → List Value} {sz : Nat} {w : World} {base g : Nat} {e : TypeId} {v : Value} {l : List α} (h : Own enc sz w base e v l) (hg : g < base) : v.ownBlock = none ∨ v.ownBlock ≠ some g := by
  right
  intro e
  have := (World.ownsRow.lt h g e).1
  omega
theorem own_apart' {α : Type} {enc : α → List Value} {sz : Nat} {w : World} {base g : Nat} {e : TypeId} {v : Value} {l : List α} (h : Own enc sz w base e v l) (hg : w.heap.size ≤ g) : v.ownBlock = none ∨ v.ownBlock ≠ some g := by
  right
  intro e
  have := (World.ownsRow.lt h g e).2
  omega
/-- The length of a slice. -/
def lenV : Value → Nat
  | .slice _ n _ => n
  | _ => 0
theorem below_drewN' {B : Nat} {a w : World} (h : Below B a w) (m : Nat) : Below B a (w.drewN m) := ⟨h.os, h.tape, h.output, h.size, h.block⟩
theorem grown_any {w w' : World} {r : Option Nat} (h : w.grownBy w' none) : w.grownBy w' r := ⟨h.os, h.tape, h.output, h.size, fun k hk _ => h.block k hk (by simp)⟩
/-- One element appended to a row of the call's own: the same row, or a new one. -/
theorem wpList_append_fs {P : Program} {w : World} {ops : Array Oper} {rest : List Oper} {o : Oper} {a : Act} {Q : Exit → Act → World → Prop} (hgd : o.guard = none) (s x : Operand) (t : TypeId)
    (ho : o.op = .call { callee := .builtin .append, args := #[s, x], argTypes := #[t, t] })
    (base : Nat) (e : TypeId) (i : TypeInfo) (z : Value) (size bytes : Nat) (ht : P.underlying t = some (.slice e)) (hi : P.info? e = some i) (hz : i.zero = some z)
    (hsize : i.size = size) (hby : i.bytes = bytes) (hzs : z.cells.size = size) (hsz : 0 < size)
    {α : Type} (enc : α → List Value) (henc : ∀ y, (enc y).length = size) (v : Value) (l : List α) (y : α) (hs : a.eval s = v) (hown : Own enc size w base e v l)
    (ad : Addr) (c : Nat) (hx : a.eval x = .slice (some ad) 1 c) (hnews : ∀ j u, ([y].flatMap enc)[j]? = some u → w.cell? (ad.add j) = some u) (h1 : ∀ u ∈ [y].flatMap enc, u.oneCell' = true)
    (h63 : l.length + 1 ≤ maxLen) (hbytes : (l.length + 1) * bytes ≤ 140737488355328) (hbase : base ≤ w.heap.size)
    (h : ∀ v' w', Own enc size w' base e v' (l ++ [y]) → w.grownBy w' v.ownBlock → (v'.ownBlock = v.ownBlock ∨ ∀ k, v'.ownBlock = some k → w.heap.size ≤ k) → wpList P ops Q rest (a.put o.dst v') w') : wpList P ops Q (o :: rest) a w := by
  refine wpList_plain hgd fun K hK => ?_
  have hlen : ([y].flatMap enc).length = 1 * size := by rw [flat_length henc]; rfl
  have key : ∃ v' w', (Builtin.append_ #[t, t] o.type #[v, .slice (some ad) 1 c]).run P w = .ok v' w' ∧ Own enc size w' base e v' (l ++ [y]) ∧ w.grownBy w' v.ownBlock ∧ (v'.ownBlock = v.ownBlock ∨ ∀ k, v'.ownBlock = some k → w.heap.size ≤ k) := by
    have h0 := hown
    rcases hown.2 with ⟨rfl, hl0⟩ | ⟨g, cap, cur, rfl, hb, hg, hnc, hcm, hcs, htake⟩
    · have hl : l = [] := List.eq_nil_of_length_eq_zero hl0
      subst hl
      obtain ⟨v', w', hrun, r1, r2, _⟩ := run_append_own (P := P) w w.heap.size t o.type e i z size bytes ht hi hz hsize hby hzs hsz (.slice none 0 0) 0 [] (World.ownsRow_nil w _ e size) ad 1 c ([y].flatMap enc) hlen hnews h1 (by simpa using h63) (by simpa using hbytes) (Nat.le_refl _)
      have ho' : Own enc size w' w.heap.size e v' ([] ++ [y]) := by unfold Own; simpa using r1
      exact ⟨v', w', hrun, ho'.mono hbase, r2, .inr (fun k hk => (World.ownsRow.lt ho' k hk).1)⟩
    · by_cases hr : l.length + 1 ≤ cap
      · obtain ⟨v', w', hrun, r1, r2, _⟩ := run_append_own (P := P) w base t o.type e i z size bytes ht hi hz hsize hby hzs hsz _ l.length (l.flatMap enc) hown ad 1 c ([y].flatMap enc) hlen hnews h1 h63 hbytes hbase
        have hrun2 := run_append_room_cells (P := P) (w := w) t o.type e i ht hi g 0 l.length cap ad 1 c ([y].flatMap enc) (by rw [hsize]; exact hlen) hnews h1 hr (fun j hj => by
          rw [hlen] at hj
          simp only [World.cell?, hg, Nat.zero_add, hsize]
          have h2 := Nat.mul_le_mul_right size hr
          rw [Nat.add_mul] at h2
          have : l.length * size + j < cur.size := by rw [hcs]; omega
          simp [this]) (fun j _ => World.ownsRow.frozenAt h0 _)
        rw [hrun] at hrun2
        injection hrun2 with e1 e2
        refine ⟨v', w', hrun, ?_, r2, .inl (by rw [e1]; rfl)⟩
        unfold Own
        simpa using r1
      · have holds : ∀ j u, (l.flatMap enc)[j]? = some u → w.cell? ((⟨g, 0, none⟩ : Addr).add j) = some u := World.ownsRow.cells h0 (g := g) rfl
        obtain ⟨v', w', hrun, r1, r2⟩ := run_append_arg_grows (P := P) (w := w) t o.type e i z size bytes ht hi hz hsize hby hzs hsz ⟨g, 0, none⟩ l.length cap (l.flatMap enc) (flat_length henc l) holds ad 1 c ([y].flatMap enc) hlen hnews (by omega) h63 hbytes
        have ho' : Own enc size w' w.heap.size e v' (l ++ [y]) := by unfold Own; simpa using r1
        exact ⟨v', w', hrun, ho'.mono hbase, grown_any r2, .inr (fun k hk => (World.ownsRow.lt ho' k hk).1)⟩
  obtain ⟨v', w', hrun, k1, k2, k3⟩ := key
  unfold Oper.wp
  simp [execOp, ho, resolve, invoke, builtin, hs, hx, hrun, Result.andThen]
  exact hK _ _ (h v' w' k1 k2 k3)
/-- make with a length and a capacity. -/
theorem wpList_make_part {P : Program} (w : World) {ops : Array Oper} {rest : List Oper} {o : Oper} {a : Act} {Q : Exit → Act → World → Prop}
    (hg : o.guard = none) (l c : Operand) (t : TypeId) (hop : o.op = Op.makeSlice t l c)
    (e : TypeId) (i : TypeInfo) (z : Value) (h1 : P.underlying t = some (.slice e)) (h2 : P.info? e = some i) (h3 : i.zero = some z)
    (kl kc : IntKind) (n m : Nat) (hl : a.eval l = .int kl (n : Int)) (hc : a.eval c = .int kc (m : Int)) (hnm : n ≤ m) (b2 : i.bytes * m ≤ 281474976710656) (b3 : m ≤ maxLen)
    (hK : wpList P ops Q rest (a.put o.dst (.slice (some ⟨w.heap.size, 0, none⟩) n m)) (w.alloc (.cells (madeCells z.cells (m * i.size)) e))) :
    wpList P ops Q (o :: rest) a w := by
  refine wpList_plain hg fun K hK' => ?_
  have hb : (i.bytes : Int) * (m : Int) ≤ 281474976710656 := by
    have h : ((i.bytes * m : Nat) : Int) ≤ 281474976710656 := by omega
    rwa [Int.natCast_mul] at h
  have hr := run_make (P := P) w t e i z h1 h2 h3 kl kc n m (by omega) (by omega) hb (by unfold maxLen at b3; omega)
  simp only [Int.toNat_natCast] at hr
  unfold Oper.wp
  simp [execOp, hop, hl, hc, hr, Result.andThen]
  exact hK' _ _ hK
/-- copy into a row that lies whole. -/
theorem wpList_copy_cells {P : Program} {w : World} {ops : Array Oper} {rest : List Oper} {o : Oper} {a : Act} {Q : Exit → Act → World → Prop} (hgd : o.guard = none) (d s : Operand) (dT sT : TypeId)
    (ho : o.op = .call { callee := .builtin .copy, args := #[d, s], argTypes := #[dT, sT] }) (elem : TypeId) (hu : P.underlying dT = some (.slice elem)) (size : Nat) (hsz : (P.info? elem).map (·.size) = some size)
    (g dLen dCap : Nat) (ad : Addr) (sLen sCap : Nat) (hd : a.eval d = .slice (some ⟨g, 0, none⟩) dLen dCap) (hs : a.eval s = .slice (some ad) sLen sCap)
    (cur : Array Value) (t : TypeId) (hg : w.heap[g]? = some (.cells cur t (0, 0))) (cs : List Value) (hn : cs.length = Nat.min sLen dLen * size)
    (hsrc : ∀ j v, cs[j]? = some v → w.cell? (ad.add j) = some v) (hfit : cs.length ≤ cur.size) (h1 : ∀ v ∈ cs, v.oneCell' = true)
    (h : ∀ w', Hid (w' = w.setRow g (cs ++ cur.toList.drop cs.length).toArray) → wpList P ops Q rest (a.put o.dst (goInt (Nat.min sLen dLen : Nat))) w') : wpList P ops Q (o :: rest) a w := by
  refine wpList_plain hgd fun K hK => ?_
  have hrun := run_copy_cells (P := P) w dT sT o.type elem g dLen dCap ad sLen sCap cur t cs size hu hsz hg hn hsrc hfit h1
  unfold Oper.wp
  simp [execOp, ho, resolve, invoke, builtin, hd, hs, hrun, Result.andThen]
  exact hK _ _ (h _ rfl)
theorem below_setRow {base : Nat} {w w1 : World} (h : Below base w w1) {g : Nat} (hg : base ≤ g) (cs : Array Value) : Below base w (w1.setRow g cs) :=
  h.trans ⟨rfl, rfl, rfl, by simp [World.setRow], fun k hk => by simp [World.setRow, Array.getElem?_modify]; intro e; omega⟩
/-- A row that has been made and copied into. -/
theorem own_copied {α : Type} {enc : α → List Value} {sz : Nat} (henc : ∀ x, (enc x).length = sz) (w : World) (base : Nat) (e : TypeId) (l : List α) (cur : Array Value) (g m : Nat) (hg : w.heap[g]? = some (.cells cur e (0, 0))) (hb : base ≤ g)
    (hc : cur.size = m * sz) (hlm : l.length ≤ m) (hm : m ≤ maxLen) :
    Own enc sz (w.setRow g (l.flatMap enc ++ cur.toList.drop (l.flatMap enc).length).toArray) base e (.slice (some ⟨g, 0, none⟩) l.length m) l := by
  have hf := flat_length henc l
  have hle : l.length * sz ≤ m * sz := Nat.mul_le_mul_right sz hlm
  refine ⟨hf, .inr ⟨g, m, _, rfl, hb, setRow_heap w g cur _ e (0, 0) hg, hlm, hm, ?_, ?_⟩⟩
  · simp [hf, hc]; omega
  · rw [List.take_left' (by rw [hf])]
theorem wpList_copy_none {P : Program} {w : World} {ops : Array Oper} {rest : List Oper} {o : Oper} {a : Act} {Q : Exit → Act → World → Prop} (hgd : o.guard = none) (d s : Operand) (dT sT : TypeId)
    (ho : o.op = .call { callee := .builtin .copy, args := #[d, s], argTypes := #[dT, sT] }) (elem : TypeId) (hu : P.underlying dT = some (.slice elem)) (size : Nat) (hsz : (P.info? elem).map (·.size) = some size)
    (g dLen dCap sCap : Nat) (hd : a.eval d = .slice (some ⟨g, 0, none⟩) dLen dCap) (hs : a.eval s = .slice none 0 sCap)
    (h : wpList P ops Q rest (a.put o.dst (.int .i64 0)) w) : wpList P ops Q (o :: rest) a w := by
  refine wpList_plain hgd fun K hK => ?_
  cases hq : P.info? elem with
  | none => simp [hq] at hsz
  | some i =>
    unfold Oper.wp
    simp [execOp, ho, resolve, invoke, builtin, hd, hs, Builtin.copy_, run_underlying hu, Builtin.lenOf, Builtin.firstCells, sizeOf, typeInfo, hq, storeCells, Result.andThen]
    exact hK _ _ h
theorem grown_setCells (g : Nat) : ∀ (vs : List Value) (o : Nat) (w : World), w.grownBy (w.setCells g o vs) (some g)
  | [], _, w => grown_refl w _
  | v :: vs, o, w => by
    refine grown_trans (w1 := w.setCell ⟨g, o, none⟩ v) ⟨rfl, rfl, rfl, by simp, fun k hk hne => Below.heap_setCell _ _ _ _ (fun e => hne (by rw [e]))⟩ (grown_setCells g vs (o + 1) _)
theorem getD_some {α : Type} {l : List α} {i : Nat} {x d : α} (h : l[i]? = some x) : l.getD i d = x := by simp [List.getD_eq_getElem?_getD, h]
section
variable {H : Type} {enc : TypeId × Value → H} {P : Program} {w : World} {base : Nat} {spare : Nat → Bool} {held : Bool}
theorem open_none {t e : TypeId} {A : Option Addr} {n c : Nat} {d : DataW H} {p : List MemPlace} (hu : P.underlying t = some (.slice e)) (h : DataW.Trod enc P w base spare held t (.slice A n c) d p) (hA : A = none) : c = 0 := by
  obtain ⟨fuel, hf⟩ := h
  rcases open_slice hu hf with ⟨hcs, _⟩ | ⟨a, len', cap', m, n', D, Pl, hcs, _⟩
  · simp only [Value.cells, List.cons.injEq, Value.slice.injEq, and_true] at hcs
    exact hcs.2.2
  · simp only [Value.cells, List.cons.injEq, Value.slice.injEq, and_true] at hcs
    rw [hA] at hcs
    cases hcs.1
end
end Go.Proofs.Ytffehibdeogjeaa
