/- Small lemmas that every text of this seat uses: how a law's walk ('returns true, and nothing that was there has turned') becomes the given statement. No condition. -/
import Derived.Test.YtffehibdeogjeaaRows
import Derived.WalkKit
import Derived.WalkSpells
import Derived.WalkLawsBesides
import Derived.Lib.Hide
import Derived.ProofKit
import Derived.OpenShut
import Derived.SizedLaws
import Derived.Deep.RegionHeld3
import Derived.Deep.RegionWith
import Derived.BigQuiet
import Derived.Deep.QuietTactic
namespace Go.Proofs.Ytffehibdeogjeaa
open Go.RowKit Go.ChangeShapes Go.WideShapes Go.ChangeAt

theorem ret_i64 {a b : Int} (h : a = b) : Ending.returned (.int .i64 a) = .returned (.int .i64 b) := by rw [h]
theorem ret2_i64 {a b c d : Int} (h : a = b) (h' : c = d) : Ending.returned (.tuple #[.int .i64 a, .int .i64 c]) = .returned (.tuple #[.int .i64 b, .int .i64 d]) := by rw [h, h']
theorem ret_bool {a b : Bool} (h : a = b) : Ending.returned (.bool a) = .returned (.bool b) := by rw [h]

theorem bcell {W w1 : World} (hb : Below W.heap.size W w1) : (∀ b o, b < W.heap.size → w1.cell? ⟨b, o, none⟩ = W.cell? ⟨b, o, none⟩) ∧ (∀ b o, b < W.heap.size → w1.frozen? ⟨b, o, none⟩ = W.frozen? ⟨b, o, none⟩) :=
  ⟨fun b o h => hb.cell (p := ⟨b, o, none⟩) h, fun b o h => hb.frozen (p := ⟨b, o, none⟩) h⟩

/-- What a walk needs of a world that has grown: old cells and marks, and the sizes, as rules. -/
theorem bfacts {W w1 : World} (hb : Below W.heap.size W w1) : (∀ b o, b < W.heap.size → w1.cell? ⟨b, o, none⟩ = W.cell? ⟨b, o, none⟩) ∧ (∀ b o, b < W.heap.size → w1.frozen? ⟨b, o, none⟩ = W.frozen? ⟨b, o, none⟩) ∧
    (∀ n, n < W.heap.size → n < w1.heap.size) ∧ (∀ n, n < w1.heap.size → n ≤ w1.heap.size) :=
  ⟨fun b o h => hb.cell (p := ⟨b, o, none⟩) h, fun b o h => hb.frozen (p := ⟨b, o, none⟩) h, fun _ h => Nat.lt_of_lt_of_le h hb.size, fun _ h => Nat.le_of_lt h⟩
theorem below_then {w w1 w2 : World} (h : Below w.heap.size w w1) (h2 : Below w1.heap.size w1 w2) : Below w.heap.size w w2 := h.trans (h2.mono h.size)
theorem lt_of_below {w w1 : World} {o : Obj} (h : Below (w.alloc o).heap.size (w.alloc o) w1) : w.heap.size < w1.heap.size := by
  have := h.size; simp at this; omega
theorem below_new {w w1 : World} (h : Below w.heap.size w w1) (o : Obj) : Below w.heap.size w (w1.alloc o) := h.alloc h.size o

theorem below_drew {w w1 : World} (h : Below w.heap.size w w1) : Below w.heap.size w w1.drew := h.drew
theorem below_drewN {w w1 : World} (h : Below w.heap.size w w1) (n : Nat) : Below w.heap.size w (w1.drewN n) := ⟨h.os, h.tape, h.output, h.size, h.block⟩
theorem below_put {w w1 : World} (h : Below w.heap.size w w1) {p : Addr} (hp : w.heap.size ≤ p.block) (v : Value) : Below w.heap.size w (w1.setCell p v) := h.setCell hp v

theorem results_cell1 {fn : Func} {p : Tmp} {ty : TypeId} (h : fn.results = #[.cell p ty]) (tmps : Array Value) (P : Program) (w : World) :
    (results fn tmps).run P w = ((asAddr (tmps.getD p undef)).run P w).andThen fun a w₁ => (loadVar ty a).run P w₁ := by
  simp only [results, h]
  simp [Sem.run_bind, Result.andThen]

/-! ### the call's own boxed locals: a list of blocks with their cells, kept over calls -/
def Loc (w : World) : List (Nat × List Value) → Prop
  | [] => True
  | (b, cs) :: l => b < w.heap.size ∧ (∀ i, w.cell? ⟨b, i, none⟩ = cs[i]?) ∧ (∀ i, w.frozen? ⟨b, i, none⟩ = false) ∧ Loc w l
theorem Loc.nil (w : World) : Loc w [] := trivial
theorem Loc.below {w w' : World} (hb : Below w.heap.size w w') : ∀ {l : List (Nat × List Value)}, Loc w l → Loc w' l
  | [], _ => trivial
  | (_, _) :: _, ⟨h1, h2, h3, h4⟩ => ⟨Nat.lt_of_lt_of_le h1 hb.size, fun i => (hb.cell h1).trans (h2 i), fun i => (hb.frozen h1).trans (h3 i), h4.below hb⟩
theorem Loc.old {w : World} {l : List (Nat × List Value)} (h : Loc w l) (o : Obj) : Loc (w.alloc o) l := h.below ((Below.refl _ _).alloc (Nat.le_refl _) o)
theorem Loc.new {w : World} {l : List (Nat × List Value)} (h : Loc w l) (cs : List Value) (t : TypeId) : Loc (w.alloc (.cells cs.toArray t)) ((w.heap.size, cs) :: l) :=
  ⟨by simp, fun i => by rw [World.cell?_alloc_at _ _ _ _ rfl]; simp, fun i => World.frozen?_alloc_at _ _ _ _ rfl, h.old _⟩
theorem Loc.drew {w : World} {l : List (Nat × List Value)} (h : Loc w l) : Loc w.drew l := h.below (Below.drew (Below.refl _ _))

theorem Loc.far {w : World} {p : Addr} (v : Value) : ∀ {l : List (Nat × List Value)}, (∀ q ∈ l, q.1 ≠ p.block) → Loc w l → Loc (w.setCell p v) l
  | [], _, _ => trivial
  | (b, _) :: _, hne, ⟨h1, h2, h3, h4⟩ => by
    have hb : b ≠ p.block := hne _ (List.mem_cons_self)
    have e : (w.setCell p v).heap[b]? = w.heap[b]? := Below.heap_setCell _ _ _ _ hb
    exact ⟨by simpa [World.setCell] using h1, fun i => (World.cell?_of_block (a := ⟨b, i, none⟩) e).trans (h2 i), fun i => (World.frozen?_of_block (a := ⟨b, i, none⟩) e).trans (h3 i), Loc.far v (fun q hq => hne q (List.mem_cons_of_mem _ hq)) h4⟩
theorem Loc.put {w : World} {b : Nat} {cs : List Value} {l : List (Nat × List Value)} (h : Loc w ((b, cs) :: l)) (hne : ∀ q ∈ l, q.1 ≠ b) (i : Nat) (v : Value) (hi : i < cs.length) :
    Loc (w.setCell ⟨b, i, none⟩ v) ((b, cs.set i v) :: l) := by
  obtain ⟨h1, h2, h3, h4⟩ := h
  refine ⟨by simpa [World.setCell] using h1, fun j => ?_, fun j => ?_, Loc.far (p := ⟨b, i, none⟩) v hne h4⟩
  · have hi' := h2 i
    rw [List.getElem?_eq_getElem hi] at hi'
    rw [List.getElem?_set]
    by_cases hij : i = j
    · subst hij
      rw [if_pos rfl, if_pos hi]
      exact World.cell?_setCell_same _ _ _ hi'
    · rw [if_neg hij, ← h2 j]
      exact World.cell?_setCell_other _ _ _ _ (fun e => hij (by injection e))
  · rw [World.frozen?_setCell]; exact h3 j

/-- What a region's walk keeps: nothing that was there when the call began has turned, and the call's own boxes are as they are told. -/
def Env (w0 : World) (L : List (Nat × List Value)) (w' : World) : Prop := Below w0.heap.size w0 w' ∧ Loc w' L
theorem Env.step {w0 W w' : World} {L : List (Nat × List Value)} (hb : Below W.heap.size W w') (h : Env w0 L W) : Env w0 L w' := ⟨below_then h.1 hb, h.2.below hb⟩
theorem Env.below {w0 W : World} {L : List (Nat × List Value)} (h : Env w0 L W) : Below w0.heap.size w0 W := h.1
theorem Env.old {w0 W : World} {L : List (Nat × List Value)} (h : Env w0 L W) (o : Obj) : Env w0 L (W.alloc o) := ⟨below_new h.1 o, h.2.old o⟩
theorem Env.far {w0 W : World} {L : List (Nat × List Value)} (h : Env w0 L W) {p : Addr} (hB : w0.heap.size ≤ p.block) (hne : ∀ q ∈ L, q.1 ≠ p.block) (v : Value) : Env w0 L (W.setCell p v) :=
  ⟨below_put h.1 hB v, h.2.far v hne⟩
theorem Env.far' {w0 W W' : World} {L : List (Nat × List Value)} (h : Env w0 L W) (h' : Env w0 L W') (hne : ∀ q ∈ L, q.1 ≠ W'.heap.size) (v : Value) {i : Nat} : Env w0 L (W.setCell ⟨W'.heap.size, i, none⟩ v) := h.far h'.1.size hne v
theorem Env.lt {w0 W : World} {L : List (Nat × List Value)} (h : Env w0 L W) : ∀ q ∈ L, q.1 ≠ W.heap.size := by
  have key : ∀ l : List (Nat × List Value), Loc W l → ∀ q ∈ l, q.1 < W.heap.size := by
    intro l
    induction l with
    | nil => intro _ q hq; cases hq
    | cons x l ih =>
      intro hl q hq
      obtain ⟨b, cs⟩ := x
      obtain ⟨h1, _, _, h4⟩ := hl
      rcases List.mem_cons.1 hq with rfl | hq
      · exact h1
      · exact ih h4 q hq
  exact fun q hq => Nat.ne_of_lt (key L h.2 q hq)
theorem Env.put {w0 W : World} {b : Nat} {cs : List Value} {l : List (Nat × List Value)} (h : Env w0 ((b, cs) :: l) W) (hB : w0.heap.size ≤ b) (hne : ∀ q ∈ l, q.1 ≠ b) (i : Nat) (v : Value) (hi : i < cs.length) :
    Env w0 ((b, cs.set i v) :: l) (W.setCell ⟨b, i, none⟩ v) := ⟨below_put h.1 hB v, h.2.put hne i v hi⟩
theorem Env.put4 {w0 W : World} {b : Nat} {c0 c1 c2 c3 : Value} {l : List (Nat × List Value)} (h : Env w0 ((b, [c0, c1, c2, c3]) :: l) W) (hB : w0.heap.size ≤ b) (hne : ∀ q ∈ l, q.1 ≠ b) (v0 v1 v2 v3 : Value) :
    Env w0 ((b, [v0, v1, v2, v3]) :: l) ((((W.setCell ⟨b, 0, none⟩ v0).setCell ⟨b, 1, none⟩ v1).setCell ⟨b, 2, none⟩ v2).setCell ⟨b, 3, none⟩ v3) :=
  (((h.put hB hne 0 v0 (by simp)).put hB hne 1 v1 (by simp)).put hB hne 2 v2 (by simp)).put hB hne 3 v3 (by simp)
theorem Env.drew {w0 W : World} {L : List (Nat × List Value)} (h : Env w0 L W) : Env w0 L W.drew := ⟨below_drew h.1, h.2.drew⟩

theorem Env.lt' {w0 W : World} {L : List (Nat × List Value)} (h : Env w0 L W) : ∀ q ∈ L, q.1 < W.heap.size := by
  have key : ∀ l : List (Nat × List Value), Loc W l → ∀ q ∈ l, q.1 < W.heap.size := by
    intro l
    induction l with
    | nil => intro _ q hq; cases hq
    | cons x l ih =>
      intro hl q hq
      obtain ⟨b, cs⟩ := x
      obtain ⟨h1, _, _, h4⟩ := hl
      rcases List.mem_cons.1 hq with rfl | hq
      · exact h1
      · exact ih h4 q hq
  exact key L h.2
theorem Env.far0 {w0 W Y : World} {L : List (Nat × List Value)} (h : Env w0 L W) (h' : Env w0 L Y) (v : Value) {i : Nat} : Env w0 L (W.setCell ⟨Y.heap.size, i, none⟩ v) :=
  h.far h'.1.size (fun q hq => Nat.ne_of_lt (h'.lt' q hq)) v
theorem Env.far1 {w0 W Y : World} {L : List (Nat × List Value)} (h : Env w0 L W) (h' : Env w0 L Y) (v : Value) {i : Nat} : Env w0 L (W.setCell ⟨Y.heap.size + 1, i, none⟩ v) :=
  h.far (Nat.le_trans h'.1.size (Nat.le_add_right _ _)) (fun q hq => Nat.ne_of_lt (Nat.lt_of_lt_of_le (h'.lt' q hq) (Nat.le_add_right _ _))) v
theorem Env.farA {w0 W Y : World} {o : Obj} {L : List (Nat × List Value)} (h : Env w0 L W) (h' : Env w0 L (Y.alloc o)) (v : Value) {i : Nat} : Env w0 L (W.setCell ⟨Y.heap.size + 1, i, none⟩ v) := by
  have := Env.far0 h h' v (i := i)
  rwa [World.size_alloc] at this

/-- The same behind a name: the list is not to be seen, what it says of each world is a rule. -/
theorem Env.abs {w0 W : World} {l : List (Nat × List Value)} (hb : Below w0.heap.size w0 W) (h : Loc W l) : ∃ l' : List (Nat × List Value), Env w0 l' W ∧ (∀ X, Env w0 l' X → Loc X l) :=
  ⟨l, ⟨hb, h⟩, fun _ h => h.2⟩

section
variable {H : Type} {enc : TypeId × Value → H} {P : Program}
theorem post_of_below {f : Func} {s : ChangeSpec} {apart fresh handsOn again : Bool} {W W' : World} {args : Array Value} {v : Value} {ds gs : List (DataW H)} {before pa pv : List MemPlace}
    (hW : DataW.Whole enc P f.params.toList s.vars apart W args.toList ds gs before)
    (hres : ∀ (b : Nat) (sp : Nat → Bool) (hd : Bool), DataW.TrodAll enc P W' b sp hd f.resultTypes.toList (v.resultList f.resultTypes.size) (s.fn H (ds ++ gs)).results [])
    (hargs : ∀ sp : Nat → Bool, (∀ p ∈ before, sp p.block = true) → DataW.TrodAll enc P W' 0 sp true f.params.toList args.toList (s.fn H (ds ++ gs)).args pa)
    (hvars : ∀ sp : Nat → Bool, (∀ p ∈ before, sp p.block = true) → DataW.TrodVars enc P W' sp s.vars (s.fn H (ds ++ gs)).vars pv)
    (hps : before = pa ++ pv) (hb : Below W.heap.size W W')
    (hok : ∀ (j : Nat) (t : TypeId) (r : Value), f.resultTypes[j]? = some t → (v.resultList f.resultTypes.size)[j]? = some r → Value.okWide P W' .any 0 t r) :
    s.post enc P f apart fresh handsOn again W args v W' := by
  have hlt : ∀ p ∈ before, p.block < W.heap.size := fun p hp => hW.lt p hp
  have hold : ∀ p ∈ before, (fun b => decide (b < W.heap.size)) p.block = true := fun p hp => by simpa using hlt p hp
  refine ⟨ds, gs, before, [], pa, pv, hW, hres _ _ _, hargs _ hold, hvars _ hold, World.keptBut_mono (fun p hp => ⟨hp, ?_⟩) (hb.frame (· ∈ before)), fun _ => ?_⟩
  · rw [hps, List.mem_append] at hp
    exact Or.inr hp
  · obtain ⟨_, _, _, _, _, hz, hn⟩ := hW
    refine ⟨hok, _, _, ([] ++ pa) ++ pv, ⟨[] ++ pa, pv, trodAll_append (hargs _ (fun _ _ => rfl)) (hres _ _ _), hvars _ (fun _ _ => rfl), rfl, ?_, ?_⟩, ?_⟩
    · intro b off hp
      have hin : MemPlace.cell b off ∈ before := by rw [hps]; simpa using hp
      rw [hb.frozen (hlt _ hin)]
      exact hz b off hin
    · intro ha
      have := hn ha
      rw [hps] at this
      simpa using this
    · intro p hp _
      rw [hps]
      simpa using hp

theorem trodAll_stays (hl : laidOutB P = true) {W W' : World} {sp' : Nat → Bool} : ∀ (ts : List TypeId) (vs : List Value) (ds : List (DataW H)) (ps : List MemPlace),
    ts.all (fun t => P.readableRec t && decide (t < P.types.size)) = true →
    DataW.TrodAll enc P W 0 (fun _ => true) true ts vs ds ps → (∀ p ∈ ps, W.sameAt W' p) → (∀ p ∈ ps, sp' p.block = true) → DataW.TrodAll enc P W' 0 sp' true ts vs ds ps
  | [], [], [], _, _, h, _, _ => h
  | t :: ts, v :: vs, d :: ds, ps, hr, h, hsame, hs => by
    obtain ⟨p, q, h1, h2, rfl⟩ := h
    simp only [List.all_cons, Bool.and_eq_true, decide_eq_true_eq] at hr
    exact ⟨p, q, WideElems.Trod_stays hl hr.1.1 hr.1.2 h1 (fun x hx => hsame x (List.mem_append_left _ hx)) (fun x hx => hs x (List.mem_append_left _ hx)),
      trodAll_stays hl ts vs ds q hr.2 h2 (fun x hx => hsame x (List.mem_append_right _ hx)) (fun x hx => hs x (List.mem_append_right _ hx)), rfl⟩
  | [], [], _ :: _, _, _, h, _, _ => h.elim
  | [], _ :: _, _, _, _, h, _, _ => h.elim
  | _ :: _, [], _, _, _, h, _, _ => h.elim
  | _ :: _, _ :: _, [], _, _, h, _, _ => h.elim
end

/-- A law: its walk gives its contract. -/
theorem law_lift {C : Checked} {os : Os} (started : os.Started) {H : Type} {enc : TypeId × Value → H} {f : FuncId} {fn : Func} {s : ChangeSpec} {conds : List PathCond} {tb : TypeId}
    (own : ownKnob C.prog.godebug = none) (noInit : C.prog.inits.idxOf? f = none) (hfn : C.prog.funcs[f]? = some fn)
    (witness : ∃ (w : World) (tape : Tape) (i : Input), w.os = os ∧ (w.forCall tape i).Shaped C.prog ∧ i.vars = [] ∧ Input.okWide C.prog (w.forCall tape i) .any w.heap.size f i ∧
      s.pre6 enc C.prog fn conds false (w.forCall tape i).memory i.args ∧ ({} : Assume).holds C.prog (lone (Frame.enter C.prog f i.args .normal) [] (w.forCall tape i)))
    (hvars : s.vars = []) (hres : fn.resultTypes = #[tb]) (htb : C.prog.underlying tb = some .bool) (hlaid : laidOutB C.prog = true)
    (hread : fn.params.toList.all (fun t => C.prog.readableRec t && decide (t < C.prog.types.size)) = true)
    (hspec : ∀ (ds : List (DataW H)), ds.length = fn.params.size → s.fn H ds = { results := [.lit (.bool true)], args := ds })
    (walk : ∀ (W : World) (base : Nat) (args : Array Value) (ds : List (DataW H)) (ps : List MemPlace),
      (∀ (j : Nat) t v, fn.params[j]? = some t → args[j]? = some v → Value.okWide C.prog W .any base t v) →
      DataW.TrodAll enc C.prog W 0 (fun _ => true) true fn.params.toList args.toList ds ps → (∀ x ∈ ps, x.block < W.heap.size) →
      (DataW.weightsEach C.prog fn.params.toList ds).all (· ≤ reachBytes) = true →
      Calls C.prog f args W fun e W' => e = .returned (.bool true) ∧ Below W.heap.size W W') :
    ReturnsInHanded {} C os f .any (s.pre6 enc C.prog fn conds false) (s.post enc C.prog fn false true false false) := by
  refine returnsInHanded_of_change_sized own started noInit hfn witness ?_
  intro W base args ds gs before hval hW _ hsz _
  have hW' := hW
  obtain ⟨p, q, hA, hV, rfl, hfz, hnd⟩ := hW
  have hlt : ∀ x ∈ p ++ q, x.block < W.heap.size := fun x hx => hW'.lt x hx
  rw [hvars] at hV
  obtain ⟨rfl, rfl⟩ := trodVars_none hV
  have hpv : s.plain.varTypes C.prog = [] := by
    obtain ⟨nm, vars, fnc⟩ := s
    simp only at hvars
    subst hvars
    rfl
  rw [hpv] at hsz
  simp only [List.append_nil] at hsz hlt
  refine (walk W base args ds p hval hA hlt hsz).mono fun e W' ⟨he, hb⟩ => ?_
  subst he
  have hl : ds.length = fn.params.size := by
    have key : ∀ (ts : List TypeId) (vs : List Value) (ds : List (DataW H)) (ps : List MemPlace), DataW.TrodAll enc C.prog W 0 (fun _ => true) true ts vs ds ps → ds.length = ts.length := by
      intro ts
      induction ts with
      | nil =>
        intro vs ds ps h
        match vs, ds, h with
        | [], [], _ => rfl
      | cons t ts ih =>
        intro vs ds ps h
        match vs, ds, h with
        | v :: vs, d :: ds, h =>
          obtain ⟨_, _, _, h2, _⟩ := h
          simp [ih _ _ _ h2]
    simpa using key _ _ _ _ hA
  have hf : s.fn H (ds ++ []) = { results := [.lit (.bool true)], args := ds } := by rw [List.append_nil]; exact hspec ds hl
  refine ⟨_, rfl, post_of_below (pa := p) (pv := []) hW' (fun b sp hd => ?_) (fun sp hsp => ?_) (fun sp _ => ?_) rfl hb ?_⟩
  · rw [hf, hres]
    exact trodAll_cons_mk (shut_bool htb true) trodAll_mk0
  · rw [hf]
    exact trodAll_stays hlaid _ _ _ _ hread hA (fun x hx => hb.same (hlt x hx)) (fun x hx => hsp x (by simpa using hx))
  · rw [hf, hvars]
    rfl
  · exact ok_one hres rfl (okWide_bool_mk htb true)
end Go.Proofs.Ytffehibdeogjeaa
