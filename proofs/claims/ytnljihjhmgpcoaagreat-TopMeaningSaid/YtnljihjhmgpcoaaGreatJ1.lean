/- Lemmas and contracts for the statement, joined into one text: Base, Held, Short, Accums, Tumble, Windows, Accums2, HeldL, ShortL. The conditions of each stand at its head. -/
import Derived.Test.YtnljihjhmgpcoaaGreatRows
import Derived.WalkKit
import Derived.WalkSpells
import Derived.WalkLawsBesides
import Derived.Lib.Hide
import Derived.ProofKit
import Derived.OpenShut
import Derived.SizedLaws
import Derived.Deep.RegionHeld3
import Derived.Deep.RegionWith
import Derived.BigQuiet
import Derived.Deep.QuietTactic
namespace Go.Proofs.YtnljihjhmgpcoaaGreat
open Go.RowKit Go.ChangeShapes Go.WideShapes Go.ChangeAt
theorem ret_i64 {a b : Int} (h : a = b) : Ending.returned (.int .i64 a) = .returned (.int .i64 b) := by rw [h]
theorem ret2_i64 {a b c d : Int} (h : a = b) (h' : c = d) : Ending.returned (.tuple #[.int .i64 a, .int .i64 c]) = .returned (.tuple #[.int .i64 b, .int .i64 d]) := by rw [h, h']
theorem ret_bool {a b : Bool} (h : a = b) : Ending.returned (.bool a) = .returned (.bool b) := by rw [h]
theorem below_then {w w1 w2 : World} (h : Below w.heap.size w w1) (h2 : Below w1.heap.size w1 w2) : Below w.heap.size w w2 := h.trans (h2.mono h.size)
theorem lt_of_below {w w1 : World} {o : Obj} (h : Below (w.alloc o).heap.size (w.alloc o) w1) : w.heap.size < w1.heap.size := by
 have := h.size; simp at this; omega
theorem below_new {w w1 : World} (h : Below w.heap.size w w1) (o : Obj) : Below w.heap.size w (w1.alloc o) := h.alloc h.size o
theorem below_drew {w w1 : World} (h : Below w.heap.size w w1) : Below w.heap.size w w1.drew := h.drew
theorem below_drewN {w w1 : World} (h : Below w.heap.size w w1) (n : Nat) : Below w.heap.size w (w1.drewN n) := ⟨h.os, h.tape, h.output, h.size, h.block⟩
theorem below_put {w w1 : World} (h : Below w.heap.size w w1) {p : Addr} (hp : w.heap.size ≤ p.block) (v : Value) : Below w.heap.size w (w1.setCell p v) := h.setCell hp v
theorem results_cell1 {fn : Func} {p : Tmp} {ty : TypeId} (h : fn.results = #[.cell p ty]) (tmps : Array Value) (P : Program) (w : World) :
  (results fn tmps).run P w = ((asAddr (tmps.getD p undef)).run P w).andThen fun a w₁ => (loadVar ty a).run P w₁ := by
 simp only [results, h]
 simp [Sem.run_bind, Result.andThen]
def Loc (w : World) : List (Nat × List Value) → Prop
 | [] => True
 | (b, cs) :: l => b < w.heap.size ∧ (∀ i, w.cell? ⟨b, i, none⟩ = cs[i]?) ∧ (∀ i, w.frozen? ⟨b, i, none⟩ = false) ∧ Loc w l
theorem Loc.nil (w : World) : Loc w [] := trivial
theorem Loc.below {w w' : World} (hb : Below w.heap.size w w') : ∀ {l : List (Nat × List Value)}, Loc w l → Loc w' l
 | [], _ => trivial
 | (_, _) :: _, ⟨h1, h2, h3, h4⟩ => ⟨Nat.lt_of_lt_of_le h1 hb.size, fun i => (hb.cell h1).trans (h2 i), fun i => (hb.frozen h1).trans (h3 i), h4.below hb⟩
theorem Loc.old {w : World} {l : List (Nat × List Value)} (h : Loc w l) (o : Obj) : Loc (w.alloc o) l := h.below ((Below.refl _ _).alloc (Nat.le_refl _) o)
theorem Loc.new {w : World} {l : List (Nat × List Value)} (h : Loc w l) (cs : List Value) (t : TypeId) : Loc (w.alloc (.cells cs.toArray t)) ((w.heap.size, cs) :: l) :=
 ⟨by simp, fun i => by rw [World.cell?_alloc_at _ _ _ _ rfl]; simp, fun i => World.frozen?_alloc_at _ _ _ _ rfl, h.old _⟩
theorem Loc.drew {w : World} {l : List (Nat × List Value)} (h : Loc w l) : Loc w.drew l := h.below (Below.drew (Below.refl _ _))
theorem Loc.far {w : World} {p : Addr} (v : Value) : ∀ {l : List (Nat × List Value)}, (∀ q ∈ l, q.1 ≠ p.block) → Loc w l → Loc (w.setCell p v) l
 | [], _, _ => trivial
 | (b, _) :: _, hne, ⟨h1, h2, h3, h4⟩ => by
  have hb : b ≠ p.block := hne _ (List.mem_cons_self)
  have e : (w.setCell p v).heap[b]? = w.heap[b]? := Below.heap_setCell _ _ _ _ hb
  exact ⟨by simpa [World.setCell] using h1, fun i => (World.cell?_of_block (a := ⟨b, i, none⟩) e).trans (h2 i), fun i => (World.frozen?_of_block (a := ⟨b, i, none⟩) e).trans (h3 i), Loc.far v (fun q hq => hne q (List.mem_cons_of_mem _ hq)) h4⟩
theorem Loc.put {w : World} {b : Nat} {cs : List Value} {l : List (Nat × List Value)} (h : Loc w ((b, cs) :: l)) (hne : ∀ q ∈ l, q.1 ≠ b) (i : Nat) (v : Value) (hi : i < cs.length) :
  Loc (w.setCell ⟨b, i, none⟩ v) ((b, cs.set i v) :: l) := by
 obtain ⟨h1, h2, h3, h4⟩ := h
 refine ⟨by simpa [World.setCell] using h1, fun j => ?_, fun j => ?_, Loc.far (p := ⟨b, i, none⟩) v hne h4⟩
 ·have hi' := h2 i
  rw [List.getElem?_eq_getElem hi] at hi'
  rw [List.getElem?_set]
  by_cases hij : i = j
  ·subst hij
   rw [if_pos rfl, if_pos hi]
   exact World.cell?_setCell_same _ _ _ hi'
  ·rw [if_neg hij, ← h2 j]
   exact World.cell?_setCell_other _ _ _ _ (fun e => hij (by injection e))
 ·rw [World.frozen?_setCell]; exact h3 j
/-- What a region's walk keeps: nothing that was there when the call began has turned, and the call's own boxes are as they are told. -/
def Env (w0 : World) (L : List (Nat × List Value)) (w' : World) : Prop := Below w0.heap.size w0 w' ∧ Loc w' L
theorem Env.step {w0 W w' : World} {L : List (Nat × List Value)} (hb : Below W.heap.size W w') (h : Env w0 L W) : Env w0 L w' := ⟨below_then h.1 hb, h.2.below hb⟩
theorem Env.below {w0 W : World} {L : List (Nat × List Value)} (h : Env w0 L W) : Below w0.heap.size w0 W := h.1
theorem Env.old {w0 W : World} {L : List (Nat × List Value)} (h : Env w0 L W) (o : Obj) : Env w0 L (W.alloc o) := ⟨below_new h.1 o, h.2.old o⟩
theorem Env.far {w0 W : World} {L : List (Nat × List Value)} (h : Env w0 L W) {p : Addr} (hB : w0.heap.size ≤ p.block) (hne : ∀ q ∈ L, q.1 ≠ p.block) (v : Value) : Env w0 L (W.setCell p v) :=
 ⟨below_put h.1 hB v, h.2.far v hne⟩
theorem Env.lt {w0 W : World} {L : List (Nat × List Value)} (h : Env w0 L W) : ∀ q ∈ L, q.1 ≠ W.heap.size := by
 have key : ∀ l : List (Nat × List Value), Loc W l → ∀ q ∈ l, q.1 < W.heap.size := by
  intro l
  induction l with
  | nil => intro _ q hq; cases hq
  | cons x l ih =>
   intro hl q hq
   obtain ⟨b, cs⟩ := x
   obtain ⟨h1, _, _, h4⟩ := hl
   rcases List.mem_cons.1 hq with rfl | hq
   ·exact h1
   ·exact ih h4 q hq
 exact fun q hq => Nat.ne_of_lt (key L h.2 q hq)
theorem Env.put {w0 W : World} {b : Nat} {cs : List Value} {l : List (Nat × List Value)} (h : Env w0 ((b, cs) :: l) W) (hB : w0.heap.size ≤ b) (hne : ∀ q ∈ l, q.1 ≠ b) (i : Nat) (v : Value) (hi : i < cs.length) :
  Env w0 ((b, cs.set i v) :: l) (W.setCell ⟨b, i, none⟩ v) := ⟨below_put h.1 hB v, h.2.put hne i v hi⟩
theorem Env.drew {w0 W : World} {L : List (Nat × List Value)} (h : Env w0 L W) : Env w0 L W.drew := ⟨below_drew h.1, h.2.drew⟩
theorem Env.lt' {w0 W : World} {L : List (Nat × List Value)} (h : Env w0 L W) : ∀ q ∈ L, q.1 < W.heap.size := by
 have key : ∀ l : List (Nat × List Value), Loc W l → ∀ q ∈ l, q.1 < W.heap.size := by
  intro l
  induction l with
  | nil => intro _ q hq; cases hq
  | cons x l ih =>
   intro hl q hq
   obtain ⟨b, cs⟩ := x
   obtain ⟨h1, _, _, h4⟩ := hl
   rcases List.mem_cons.1 hq with rfl | hq
   ·exact h1
   ·exact ih h4 q hq
 exact key L h.2
theorem Env.far0 {w0 W Y : World} {L : List (Nat × List Value)} (h : Env w0 L W) (h' : Env w0 L Y) (v : Value) {i : Nat} : Env w0 L (W.setCell ⟨Y.heap.size, i, none⟩ v) :=
 h.far h'.1.size (fun q hq => Nat.ne_of_lt (h'.lt' q hq)) v
theorem Env.far1 {w0 W Y : World} {L : List (Nat × List Value)} (h : Env w0 L W) (h' : Env w0 L Y) (v : Value) {i : Nat} : Env w0 L (W.setCell ⟨Y.heap.size + 1, i, none⟩ v) :=
 h.far (Nat.le_trans h'.1.size (Nat.le_add_right _ _)) (fun q hq => Nat.ne_of_lt (Nat.lt_of_lt_of_le (h'.lt' q hq) (Nat.le_add_right _ _))) v
theorem Env.farA {w0 W Y : World} {o : Obj} {L : List (Nat × List Value)} (h : Env w0 L W) (h' : Env w0 L (Y.alloc o)) (v : Value) {i : Nat} : Env w0 L (W.setCell ⟨Y.heap.size + 1, i, none⟩ v) := by
 have := Env.far0 h h' v (i := i)
 rwa [World.size_alloc] at this
/-- The same behind a name: the list is not to be seen, what it says of each world is a rule. -/
theorem Env.abs {w0 W : World} {l : List (Nat × List Value)} (hb : Below w0.heap.size w0 W) (h : Loc W l) : ∃ l' : List (Nat × List Value), Env w0 l' W ∧ (∀ X, Env w0 l' X → Loc X l) :=
 ⟨l, ⟨hb, h⟩, fun _ h => h.2⟩
section
variable {H : Type} {enc : TypeId × Value → H} {P : Program}
theorem post_of_below {f : Func} {s : ChangeSpec} {apart fresh handsOn again : Bool} {W W' : World} {args : Array Value} {v : Value} {ds gs : List (DataW H)} {before pa pv : List MemPlace}
  (hW : DataW.Whole enc P f.params.toList s.vars apart W args.toList ds gs before)
  (hres : ∀ (b : Nat) (sp : Nat → Bool) (hd : Bool), DataW.TrodAll enc P W' b sp hd f.resultTypes.toList (v.resultList f.resultTypes.size) (s.fn H (ds ++ gs)).results [])
  (hargs : ∀ sp : Nat → Bool, (∀ p ∈ before, sp p.block = true) → DataW.TrodAll enc P W' 0 sp true f.params.toList args.toList (s.fn H (ds ++ gs)).args pa)
  (hvars : ∀ sp : Nat → Bool, (∀ p ∈ before, sp p.block = true) → DataW.TrodVars enc P W' sp s.vars (s.fn H (ds ++ gs)).vars pv)
  (hps : before = pa ++ pv) (hb : Below W.heap.size W W')
  (hok : ∀ (j : Nat) (t : TypeId) (r : Value), f.resultTypes[j]? = some t → (v.resultList f.resultTypes.size)[j]? = some r → Value.okWide P W' .any 0 t r) :
  s.post enc P f apart fresh handsOn again W args v W' := by
 have hlt : ∀ p ∈ before, p.block < W.heap.size := fun p hp => hW.lt p hp
 have hold : ∀ p ∈ before, (fun b => decide (b < W.heap.size)) p.block = true := fun p hp => by simpa using hlt p hp
 refine ⟨ds, gs, before, [], pa, pv, hW, hres _ _ _, hargs _ hold, hvars _ hold, World.keptBut_mono (fun p hp => ⟨hp, ?_⟩) (hb.frame (· ∈ before)), fun _ => ?_⟩
 ·rw [hps, List.mem_append] at hp
  exact Or.inr hp
 ·obtain ⟨_, _, _, _, _, hz, hn⟩ := hW
  refine ⟨hok, _, _, ([] ++ pa) ++ pv, ⟨[] ++ pa, pv, trodAll_append (hargs _ (fun _ _ => rfl)) (hres _ _ _), hvars _ (fun _ _ => rfl), rfl, ?_, ?_⟩, ?_⟩
  ·intro b off hp
   have hin : MemPlace.cell b off ∈ before := by rw [hps]; simpa using hp
   rw [hb.frozen (hlt _ hin)]
   exact hz b off hin
  ·intro ha
   have := hn ha
   rw [hps] at this
   simpa using this
  ·intro p hp _
   rw [hps]
   simpa using hp
theorem trodAll_stays (hl : laidOutB P = true) {W W' : World} {sp' : Nat → Bool} : ∀ (ts : List TypeId) (vs : List Value) (ds : List (DataW H)) (ps : List MemPlace),
  ts.all (fun t => P.readableRec t && decide (t < P.types.size)) = true →
  DataW.TrodAll enc P W 0 (fun _ => true) true ts vs ds ps → (∀ p ∈ ps, W.sameAt W' p) → (∀ p ∈ ps, sp' p.block = true) → DataW.TrodAll enc P W' 0 sp' true ts vs ds ps
 | [], [], [], _, _, h, _, _ => h
 | t :: ts, v :: vs, d :: ds, ps, hr, h, hsame, hs => by
  obtain ⟨p, q, h1, h2, rfl⟩ := h
  simp only [List.all_cons, Bool.and_eq_true, decide_eq_true_eq] at hr
  exact ⟨p, q, WideElems.Trod_stays hl hr.1.1 hr.1.2 h1 (fun x hx => hsame x (List.mem_append_left _ hx)) (fun x hx => hs x (List.mem_append_left _ hx)),
   trodAll_stays hl ts vs ds q hr.2 h2 (fun x hx => hsame x (List.mem_append_right _ hx)) (fun x hx => hs x (List.mem_append_right _ hx)), rfl⟩
 | [], [], _ :: _, _, _, h, _, _ => h.elim
 | [], _ :: _, _, _, _, h, _, _ => h.elim
 | _ :: _, [], _, _, _, h, _, _ => h.elim
 | _ :: _, _ :: _, [], _, _, h, _, _ => h.elim
end
/-- A law: its walk gives its contract. -/
theorem law_lift {C : Checked} {os : Os} (started : os.Started) {H : Type} {enc : TypeId × Value → H} {f : FuncId} {fn : Func} {s : ChangeSpec} {conds : List PathCond} {tb : TypeId}
  (own : ownKnob C.prog.godebug = none) (noInit : C.prog.inits.idxOf? f = none) (hfn : C.prog.funcs[f]? = some fn)
  (witness : ∃ (w : World) (tape : Tape) (i : Input), w.os = os ∧ (w.forCall tape i).Shaped C.prog ∧ i.vars = [] ∧ Input.okWide C.prog (w.forCall tape i) .any w.heap.size f i ∧
   s.pre6 enc C.prog fn conds false (w.forCall tape i).memory i.args ∧ ({} : Assume).holds C.prog (lone (Frame.enter C.prog f i.args .normal) [] (w.forCall tape i)))
  (hvars : s.vars = []) (hres : fn.resultTypes = #[tb]) (htb : C.prog.underlying tb = some .bool) (hlaid : laidOutB C.prog = true)
  (hread : fn.params.toList.all (fun t => C.prog.readableRec t && decide (t < C.prog.types.size)) = true)
  (hspec : ∀ (ds : List (DataW H)), ds.length = fn.params.size → s.fn H ds = { results := [.lit (.bool true)], args := ds })
  (walk : ∀ (W : World) (base : Nat) (args : Array Value) (ds : List (DataW H)) (ps : List MemPlace),
   (∀ (j : Nat) t v, fn.params[j]? = some t → args[j]? = some v → Value.okWide C.prog W .any base t v) →
   DataW.TrodAll enc C.prog W 0 (fun _ => true) true fn.params.toList args.toList ds ps → (∀ x ∈ ps, x.block < W.heap.size) →
   (DataW.weightsEach C.prog fn.params.toList ds).all (· ≤ reachBytes) = true →
   Calls C.prog f args W fun e W' => e = .returned (.bool true) ∧ Below W.heap.size W W') :
  ReturnsInHanded {} C os f .any (s.pre6 enc C.prog fn conds false) (s.post enc C.prog fn false true false false) := by
 refine returnsInHanded_of_change_sized own started noInit hfn witness ?_
 intro W base args ds gs before hval hW _ hsz _
 have hW' := hW
 obtain ⟨p, q, hA, hV, rfl, hfz, hnd⟩ := hW
 have hlt : ∀ x ∈ p ++ q, x.block < W.heap.size := fun x hx => hW'.lt x hx
 rw [hvars] at hV
 obtain ⟨rfl, rfl⟩ := trodVars_none hV
 have hpv : s.plain.varTypes C.prog = [] := by
  obtain ⟨nm, vars, fnc⟩ := s
  simp only at hvars
  subst hvars
  rfl
 rw [hpv] at hsz
 simp only [List.append_nil] at hsz hlt
 refine (walk W base args ds p hval hA hlt hsz).mono fun e W' ⟨he, hb⟩ => ?_
 subst he
 have hl : ds.length = fn.params.size := by
  have key : ∀ (ts : List TypeId) (vs : List Value) (ds : List (DataW H)) (ps : List MemPlace), DataW.TrodAll enc C.prog W 0 (fun _ => true) true ts vs ds ps → ds.length = ts.length := by
   intro ts
   induction ts with
   | nil =>
    intro vs ds ps h
    match vs, ds, h with
    | [], [], _ => rfl
   | cons t ts ih =>
    intro vs ds ps h
    match vs, ds, h with
    | v :: vs, d :: ds, h =>
     obtain ⟨_, _, _, h2, _⟩ := h
     simp [ih _ _ _ h2]
  simpa using key _ _ _ _ hA
 have hf : s.fn H (ds ++ []) = { results := [.lit (.bool true)], args := ds } := by rw [List.append_nil]; exact hspec ds hl
 refine ⟨_, rfl, post_of_below (pa := p) (pv := []) hW' (fun b sp hd => ?_) (fun sp hsp => ?_) (fun sp _ => ?_) rfl hb ?_⟩
 ·rw [hf, hres]
  exact trodAll_cons_mk (shut_bool htb true) trodAll_mk0
 ·rw [hf]
  exact trodAll_stays hlaid _ _ _ _ hread hA (fun x hx => hb.same (hlt x hx)) (fun x hx => hsp x (by simpa using hx))
 ·rw [hf, hvars]
  rfl
 ·exact ok_one hres rfl (okWide_bool_mk htb true)
end Go.Proofs.YtnljihjhmgpcoaaGreat
namespace Go.Proofs.YtnljihjhmgpcoaaGreat
open Go Go.RowKit
variable {P : Program} {md : Region.Mode} {ops : Array Oper} {Q : Exit → Act → World → Prop} {S : World → Prop}
theorem hTake (i : Nat) {fuel : Nat} {listed : Array Bool} {a : Act} {w : World}
  (hs : Region.noSelect ops = true) (hf : Region.free md ops listed i = true) (hr : (Region.ready md ops listed).contains i = true) (hlt : i < ops.size) (hS : S w)
  (h : ∀ oi, ops[i]? = some oi → Region.wanted oi (yielded ops a.tmps) = true ∧ ∃ v, (∀ w, S w → (execOp a.eval oi).run P w = .ok (.value v) w) ∧ (∀ c a w, Q (.panic c) (a.put oi.dst v) w → Q (.panic c) a w) ∧
   wpAnyH P md ops Q S fuel (listed.setIfInBounds i true) (a.put oi.dst v) w) : wpAnyH P md ops Q S (fuel + 1) listed a w := by
 obtain ⟨h1, v, h2, h3, h4⟩ := h _ (Array.getElem?_eq_getElem hlt)
 exact wpAnyH_take (Array.getElem?_eq_getElem hlt) hs hf hr h3 (.inl ⟨h1, h2⟩) hS h4
theorem hSkip (i : Nat) {fuel : Nat} {listed : Array Bool} {a : Act} {w : World}
  (hs : Region.noSelect ops = true) (hf : Region.free md ops listed i = true) (hr : (Region.ready md ops listed).contains i = true) (hlt : i < ops.size) (hS : S w)
  (h : ∀ oi, ops[i]? = some oi → Region.wanted oi (yielded ops a.tmps) = false ∧ (∀ c a w, Q (.panic c) (a.put oi.dst undef) w → Q (.panic c) a w) ∧
   wpAnyH P md ops Q S fuel (listed.setIfInBounds i true) (a.put oi.dst undef) w) : wpAnyH P md ops Q S (fuel + 1) listed a w := by
 obtain ⟨h1, h3, h4⟩ := h _ (Array.getElem?_eq_getElem hlt)
 exact wpAnyH_take (Array.getElem?_eq_getElem hlt) hs hf hr h3 (.inr ⟨h1, rfl⟩) hS h4
theorem hOnly (i : Nat) {fuel : Nat} {listed : Array Bool} {a : Act} {w : World} (hr : Region.ready md ops listed = [i]) (hlt : i < ops.size)
  (h : ∀ o, ops[i]? = some o → ∀ K' : Act → World → Prop, Shut (∀ a w, S w → (S w → wpAnyH P md ops Q S fuel (listed.setIfInBounds i true) a w) → K' a w) → if Region.wanted o (yielded ops a.tmps) = true then Oper.wp P o a w K' Q else K' (a.put o.dst undef) w) :
  wpAnyH P md ops Q S (fuel + 1) listed a w :=
 wpAnyH_all hr (by simp) (AllReadyH.cons (Array.getElem?_eq_getElem hlt) (h _ (Array.getElem?_eq_getElem hlt)) AllReadyH.nil)
/-- One of several that may come up. -/
theorem hCons (i : Nat) {fuel : Nat} {listed : Array Bool} {a : Act} {w : World} {rs : List Nat} (hlt : i < ops.size)
  (h : ∀ o, ops[i]? = some o → ∀ K' : Act → World → Prop, Shut (∀ a w, S w → (S w → wpAnyH P md ops Q S fuel (listed.setIfInBounds i true) a w) → K' a w) → if Region.wanted o (yielded ops a.tmps) = true then Oper.wp P o a w K' Q else K' (a.put o.dst undef) w)
  (hs : AllReadyH P md ops Q S fuel listed a w rs) : AllReadyH P md ops Q S fuel listed a w (i :: rs) :=
 AllReadyH.cons (Array.getElem?_eq_getElem hlt) (h _ (Array.getElem?_eq_getElem hlt)) hs
theorem Loc.belowB {w w' : World} {B : Nat} (hb : Below B w w') : ∀ {l : List (Nat × List Value)}, (∀ q ∈ l, q.1 < B) → Loc w l → Loc w' l
 | [], _, _ => trivial
 | (b, _) :: _, hq, ⟨h1, h2, h3, h4⟩ => ⟨Nat.lt_of_lt_of_le h1 hb.size, fun i => (hb.cell (p := ⟨b, i, none⟩) (hq _ (List.mem_cons_self))).trans (h2 i), fun i => (hb.frozen (p := ⟨b, i, none⟩) (hq _ (List.mem_cons_self))).trans (h3 i), h4.belowB hb (fun q h => hq q (List.mem_cons_of_mem _ h))⟩
/-- A step that turns blocks that were made later alone. -/
theorem Env.kept {w0 W0 W W' : World} {L : List (Nat × List Value)} (h0 : Env w0 L W0) (h : Env w0 L W) (hb : Below W0.heap.size W W') : Env w0 L W' :=
 ⟨h.1.trans (hb.mono h0.1.size), h.2.belowB hb h0.lt'⟩
end Go.Proofs.YtnljihjhmgpcoaaGreat
namespace Go.Proofs.YtnljihjhmgpcoaaGreat
open Go Go.RowKit
theorem bel {n : Nat} {w w' : World} (h : Below n w w' := by repeat (first | exact Below.refl _ _ | assumption | (with_reducible exact Env.below (by assumption)) | (with_reducible refine below_new ?_ _) | (with_reducible refine below_drew ?_) | (with_reducible refine below_drewN ?_ _) | (with_reducible refine below_put ?_ ?_ _; rotate_left 1; (dsimp only; omega)) | (refine below_then ?_ (by assumption)))) : Below n w w' := h
theorem blr {n : Nat} {w w' : World} (h : Below n w w' := by repeat (first | with_reducible exact Below.refl _ _ | with_reducible assumption | (with_reducible exact Env.below (by assumption)) | (with_reducible refine below_new ?_ _) | (with_reducible refine below_drew ?_) | (with_reducible refine below_drewN ?_ _) | (with_reducible refine below_put ?_ ?_ _; rotate_left 1; (dsimp only; omega)) | (with_reducible refine below_then ?_ (by assumption)))) : Below n w w' := h
theorem kp {w1 w2 : World} {L : List (Nat × List Value)} (hb : Below w1.heap.size w1 w2) (h : Loc w1 L := by with_reducible first | exact hL | exact hL.new _ _ | exact (hL.new _ _).new _ _ | exact ((hL.new _ _).new _ _).new _ _ | exact (((hL.new _ _).new _ _).new _ _).new _ _) : Loc w2 L := Loc.below hb h
theorem kq {w1 w2 : World} {L : List (Nat × List Value)} (hb : Below w1.heap.size w1 w2) (h : Loc w1 L := by with_reducible first | exact Loc.new (Loc.nil _) _ _ | exact Loc.drew (Loc.new (Loc.nil _) _ _) | exact (by assumption : Loc _ [_])) : Loc w2 L := Loc.below hb h
section
variable {P : Program} {md : Region.Mode} {ops : Array Oper} {Q : Exit → Act → World → Prop} {S : World → Prop}
theorem hT (i : Nat) {fuel : Nat} {listed listed' : Array Bool} {a a' : Act} {w : World} {oi : Oper} {v : Value}
  (h : wpAnyH P md ops Q S fuel listed' a' w)
  (hs : Region.noSelect ops = true := by kernel_rfl) (hf : Region.free md ops listed i = true := by kernel_rfl) (hr : (Region.ready md ops listed).contains i = true := by kernel_rfl) (hlt : i < ops.size := by decide) (hS : S w := by assumption)
  (ho : ops[i]? = some oi := by (try simp only [List.getElem?_toArray, List.getElem?_cons_succ, List.getElem?_cons_zero]); exact rfl)
  (hw : Region.wanted oi (yielded ops a.tmps) = true := by exact rfl)
  (hp : ∀ c a w, Q (.panic c) (a.put oi.dst v) w → Q (.panic c) a w := by exact fun _ _ _ h => h)
  (hx : ∀ w, S w → (execOp a.eval oi).run P w = .ok (.value v) w := by (intro w hSw; (try dsimp only at hSw); go_simp; (try with_reducible rfl)))
  (hl : listed.setIfInBounds i true = listed' := by (try simp only [List.setIfInBounds_toArray, List.set_cons_zero, List.set_cons_succ]); (try exact rfl))
  (ha : a.put oi.dst v = a' := by (try simp only [Act.put, List.setIfInBounds_toArray, List.set_cons_zero, List.set_cons_succ]); (try exact rfl)) : wpAnyH P md ops Q S (fuel + 1) listed a w := by
 subst hl ha
 refine hTake i hs hf hr hlt hS fun o ho' => ?_
 rw [ho] at ho'
 obtain rfl := Option.some.inj ho'
 exact ⟨hw, v, hx, hp, h⟩
/-- As hT, where S is Env: what the boxes hold is laid out. -/
theorem hW (i : Nat) {fuel : Nat} {listed listed' : Array Bool} {a a' : Act} {w : World} {oi : Oper} {v : Value}
  (h : wpAnyH P md ops Q S fuel listed' a' w)
  (hs : Region.noSelect ops = true := by kernel_rfl) (hf : Region.free md ops listed i = true := by kernel_rfl) (hr : (Region.ready md ops listed).contains i = true := by kernel_rfl) (hlt : i < ops.size := by decide) (hS : S w := by assumption)
  (ho : ops[i]? = some oi := by (try simp only [List.getElem?_toArray, List.getElem?_cons_succ, List.getElem?_cons_zero]); exact rfl)
  (hw : Region.wanted oi (yielded ops a.tmps) = true := by exact rfl)
  (hp : ∀ c a w, Q (.panic c) (a.put oi.dst v) w → Q (.panic c) a w := by exact fun _ _ _ h => h)
  (hx : ∀ w, S w → (execOp a.eval oi).run P w = .ok (.value v) w := by (intro w hSw; have hSl := hSw.2; (repeat unfold Loc at hSl); clear hSw; go_simp; (try with_reducible rfl)))
  (hl : listed.setIfInBounds i true = listed' := by (try simp only [List.setIfInBounds_toArray, List.set_cons_zero, List.set_cons_succ]); (try exact rfl))
  (ha : a.put oi.dst v = a' := by (try simp only [Act.put, List.setIfInBounds_toArray, List.set_cons_zero, List.set_cons_succ]); (try exact rfl)) : wpAnyH P md ops Q S (fuel + 1) listed a w := by
 subst hl ha
 refine hTake i hs hf hr hlt hS fun o ho' => ?_
 rw [ho] at ho'
 obtain rfl := Option.some.inj ho'
 exact ⟨hw, v, hx, hp, h⟩
/-- As hT, where the operation is not wanted. -/
theorem hSk (i : Nat) {fuel : Nat} {listed listed' : Array Bool} {a a' : Act} {w : World} {oi : Oper}
  (h : wpAnyH P md ops Q S fuel listed' a' w)
  (hs : Region.noSelect ops = true := by kernel_rfl) (hf : Region.free md ops listed i = true := by kernel_rfl) (hr : (Region.ready md ops listed).contains i = true := by kernel_rfl) (hlt : i < ops.size := by decide) (hS : S w := by assumption)
  (ho : ops[i]? = some oi := by (try simp only [List.getElem?_toArray, List.getElem?_cons_succ, List.getElem?_cons_zero]); exact rfl)
  (hw : Region.wanted oi (yielded ops a.tmps) = false := by exact rfl)
  (hp : ∀ c a w, Q (.panic c) (a.put oi.dst undef) w → Q (.panic c) a w := by exact fun _ _ _ h => h)
  (hl : listed.setIfInBounds i true = listed' := by (try simp only [List.setIfInBounds_toArray, List.set_cons_zero, List.set_cons_succ]); (try exact rfl))
  (ha : a.put oi.dst undef = a' := by (try simp only [Act.put, List.setIfInBounds_toArray, List.set_cons_zero, List.set_cons_succ]); (try exact rfl)) : wpAnyH P md ops Q S (fuel + 1) listed a w := by
 subst hl ha
 refine hSkip i hs hf hr hlt hS fun o ho' => ?_
 rw [ho] at ho'
 obtain rfl := Option.some.inj ho'
 exact ⟨hw, hp, h⟩
theorem hC (i : Nat) {fuel : Nat} {listed : Array Bool} {a : Act} {w : World} {o : Oper}
  (h : ∀ K' : Act → World → Prop, Shut (∀ a w, S w → (S w → wpAnyH P md ops Q S fuel (listed.setIfInBounds i true) a w) → K' a w) → if Region.wanted o (yielded ops a.tmps) = true then Oper.wp P o a w K' Q else K' (a.put o.dst undef) w)
  (hr : Region.ready md ops listed = [i] := by kernel_rfl) (hlt : i < ops.size := by decide)
  (ho : ops[i]? = some o := by (try simp only [List.getElem?_toArray, List.getElem?_cons_succ, List.getElem?_cons_zero]); exact rfl) : wpAnyH P md ops Q S (fuel + 1) listed a w := by
 refine hOnly i hr hlt fun o' ho' => ?_
 rw [ho] at ho'
 obtain rfl := Option.some.inj ho'
 exact h
theorem hKp {fuel : Nat} {listed listed' : Array Bool} {a a' : Act} {w : World} {K : Act → World → Prop} (hK : Shut (∀ a w, S w → (S w → wpAnyH P md ops Q S fuel listed a w) → K a w))
  (h : S w → wpAnyH P md ops Q S fuel listed' a' w)
  (hS : S w := by (first | assumption | exact Env.step (by assumption) (by assumption) | exact Env.old (by assumption) _ | exact Env.drew hE | exact hE | exact Env.drew (by assumption) | exact Env.drew (Env.old (by assumption) _) | ((repeat first | refine Env.far0 ?_ (by assumption) _ | refine Env.far1 ?_ (by assumption) _ | refine Env.farA ?_ (by assumption) _); assumption)))
  (hl : listed = listed' := by (try simp only [List.setIfInBounds_toArray, List.set_cons_zero, List.set_cons_succ]); (try exact rfl))
  (ha : a = a' := by (try simp only [Act.put, List.setIfInBounds_toArray, List.set_cons_zero, List.set_cons_succ]); (try exact rfl)) : K a w := by
 subst hl ha
 exact hK.out _ _ hS h
/-- The beginning of a region that draws. -/
theorem hB {id : Nat} {a : Act} {w : World} (S : World → Prop) (h : S w.drew → wpAnyH P .any ops Q S ops.size (Array.replicate ops.size false) a w.drew) (hm : P.follows .mixedOrders = true := by kernel_rfl)
  (hS : S w.drew := by (first | assumption | exact Env.step (by assumption) (by assumption) | exact Env.old (by assumption) _ | exact Env.drew hE | exact hE | exact Env.drew (by assumption) | exact Env.drew (Env.old (by assumption) _) | ((repeat first | refine Env.far0 ?_ (by assumption) _ | refine Env.far1 ?_ (by assumption) _ | refine Env.farA ?_ (by assumption) _); assumption))) : (Code.region id ops true).wp P Q a w := wp_region_held_drew hm hS h
theorem hD {fuel : Nat} {listed : Array Bool} {a : Act} {w : World} (h : Q .normal a w) (hr : Region.ready md ops listed = [] := by kernel_rfl) : wpAnyH P md ops Q S fuel listed a w := wpAnyH_done hr h _
end
end Go.Proofs.YtnljihjhmgpcoaaGreat
namespace Go.Proofs.YtnljihjhmgpcoaaGreat
open Go.RowKit
/-- An accumulator's four numbers. -/
structure Acc where
 c : Int
 s : Int
 m : Int
 x : Int
def Acc.ok (a : Acc) : Prop := (a.c = 0 ∧ a.s = 0 ∧ a.m = 0 ∧ a.x = 0) ∨ (a.c = 1 ∧ a.s = a.m ∧ a.s = a.x) ∨ (1 < a.c ∧ a.c ≤ 1073741824 ∧ a.m ≤ a.x)
instance (a : Acc) : Decidable a.ok := by unfold Acc.ok; infer_instance
def acheck (a : Acc) : Int := if a.ok then 0 else 8
set_option maxHeartbeats 400000 in
theorem acheck_any (c s m x : Int) (w : World) :
  Calls Tryz.prog 44 #[.agg #[.int .i64 c, .int .i64 s, .int .i64 m, .int .i64 x]] w fun e w' => e = .returned (.int .i64 (acheck ⟨c, s, m, x⟩)) ∧ Below w.heap.size w w' := by
 go_enter Tryz.func44, Tryz.ntmps44
 go_wp2
 all_goals (go_ret; exact ⟨ret_i64 (by unfold acheck Acc.ok; grind), bel⟩)
def aboth (a b : Acc) : Acc := if a.c = 0 then b else if b.c = 0 then a else ⟨a.c + b.c, wrap64 (a.s + b.s), min a.m b.m, max a.x b.x⟩
def ajoin (a b : Acc) : Acc × Int := if ¬ a.ok ∨ ¬ b.ok then (⟨0, 0, 0, 0⟩, 8) else if 1073741824 < a.c + b.c then (⟨0, 0, 0, 0⟩, 4) else (aboth a b, 0)
theorem Acc.ok_range {a : Acc} (h : a.ok) : 0 ≤ a.c ∧ a.c ≤ 1073741824 := by
 unfold Acc.ok at h; omega
theorem ret_join {J : Acc × Int} {c s m x e : Int} (h : J = (⟨c, s, m, x⟩, e)) :
  Ending.returned (.tuple #[.agg #[.int .i64 c, .int .i64 s, .int .i64 m, .int .i64 x], .int .i64 e]) = .returned (.tuple #[.agg #[.int .i64 J.1.c, .int .i64 J.1.s, .int .i64 J.1.m, .int .i64 J.1.x], .int .i64 J.2]) := by rw [h]
set_option maxHeartbeats 1000000 in
theorem ajoin_any (c s m x d t n y : Int) (w : World) :
  Calls Tryz.prog 37 #[.agg #[.int .i64 c, .int .i64 s, .int .i64 m, .int .i64 x], .agg #[.int .i64 d, .int .i64 t, .int .i64 n, .int .i64 y]] w fun e w' =>
   e = .returned (.tuple #[.agg #[.int .i64 (ajoin ⟨c, s, m, x⟩ ⟨d, t, n, y⟩).1.c, .int .i64 (ajoin ⟨c, s, m, x⟩ ⟨d, t, n, y⟩).1.s, .int .i64 (ajoin ⟨c, s, m, x⟩ ⟨d, t, n, y⟩).1.m, .int .i64 (ajoin ⟨c, s, m, x⟩ ⟨d, t, n, y⟩).1.x], .int .i64 (ajoin ⟨c, s, m, x⟩ ⟨d, t, n, y⟩).2]) ∧ Below w.heap.size w w' := by
 by_cases ha : Acc.ok ⟨c, s, m, x⟩
 ·by_cases hb : Acc.ok ⟨d, t, n, y⟩
  ·obtain ⟨a1, a2⟩ := Acc.ok_range ha
   obtain ⟨b1, b2⟩ := Acc.ok_range hb
   have e1 : acheck ⟨c, s, m, x⟩ = 0 := by simp [acheck, ha]
   have e2 : acheck ⟨d, t, n, y⟩ = 0 := by simp [acheck, hb]
   simp only at a1 a2 b1 b2
   have ha' := Lib.hid ha
   have hb' := Lib.hid hb
   clear ha hb
   have hL : Loc w [] := trivial
   go_enter Tryz.func37, Tryz.ntmps37
   go_wp2_with (go_at_call 44; refine (acheck_any _ _ _ _ _).mono ?_; rintro e w1 ⟨rfl, hb1⟩; replace hL := kp hb1; (repeat rw [World.size_alloc] at hL); have hF := hL; (repeat unfold Loc at hF))
   all_goals (refine bodyPost_ret (v := _) (by rw [results_cell_tmp Tryz.results37]; go_simp; rfl) rfl ⟨?_, ?_⟩; exact ret_join (by have ha := ha'.out; have hb := hb'.out; clear hF hL; unfold ajoin aboth; grind); exact bel)
  ·have e1 : acheck ⟨c, s, m, x⟩ = 0 := by simp [acheck, ha]
   have e2 : acheck ⟨d, t, n, y⟩ = 8 := by simp [acheck, hb]
   have hb' := Lib.hid hb
   clear ha hb
   have hL : Loc w [] := trivial
   go_enter Tryz.func37, Tryz.ntmps37
   go_wp2_with (go_at_call 44; refine (acheck_any _ _ _ _ _).mono ?_; rintro e w1 ⟨rfl, hb1⟩; replace hL := kp hb1; (repeat rw [World.size_alloc] at hL); have hF := hL; (repeat unfold Loc at hF))
   all_goals (refine bodyPost_ret (v := _) (by rw [results_cell_tmp Tryz.results37]; go_simp; rfl) rfl ⟨?_, ?_⟩; exact ret_join (by unfold ajoin; rw [if_pos (.inr hb'.out)]); exact bel)
 ·have e1 : acheck ⟨c, s, m, x⟩ = 8 := by simp [acheck, ha]
  have ha' := Lib.hid ha
  clear ha
  have hL : Loc w [] := trivial
  go_enter Tryz.func37, Tryz.ntmps37
  go_wp2_with (go_at_call 44; refine (acheck_any _ _ _ _ _).mono ?_; rintro e w1 ⟨rfl, hb1⟩; replace hL := kp hb1; (repeat rw [World.size_alloc] at hL); have hF := hL; (repeat unfold Loc at hF))
  all_goals (refine bodyPost_ret (v := _) (by rw [results_cell_tmp Tryz.results37]; go_simp; rfl) rfl ⟨?_, ?_⟩; exact ret_join (by unfold ajoin; rw [if_pos (.inl ha'.out)]); exact bel)
def tchk (t size : Int) : Int := if size < 1 ∨ 1073741824 < size then 2 else if t < -1099511627776 ∨ 1099511627776 < t then 16 else 0
def tnum (t size : Int) : Int := if tchk t size = 0 then t / size else 0
def tspan (t size : Int) : Int × Int := if tchk t size = 0 then (t / size * size, t / size * size + size) else (0, 0)
theorem tchk_zero {t size : Int} : tchk t size = 0 ↔ 1 ≤ size ∧ size ≤ 1073741824 ∧ -1099511627776 ≤ t ∧ t ≤ 1099511627776 := by
 unfold tchk; split
 ·constructor <;> intro h <;> omega
 ·split
  ·constructor <;> intro h <;> omega
  ·constructor <;> intro h <;> omega
theorem tdiv_floor {t s : Int} (h : 0 < s) (h2 : t.tmod s < 0) : t.tdiv s - 1 = t / s := by
 have := Int.tdiv_eq_ediv (a := t) (b := s)
 have h3 := Int.tmod_eq_emod (a := t) (b := s)
 split at this
 ·rename_i hh
  rw [if_pos (by simpa using hh)] at h3
  have := Int.emod_nonneg t (by omega : s ≠ 0); omega
 ·rw [Int.sign_eq_one_of_pos h] at this; omega
theorem tdiv_floor' {t s : Int} (h : 0 < s) (h2 : ¬ t.tmod s < 0) : t.tdiv s = t / s := by
 have := Int.tdiv_eq_ediv (a := t) (b := s)
 have h3 := Int.tmod_eq_emod (a := t) (b := s)
 split at this
 ·simpa using this
 ·rename_i hh
  rw [if_neg (by simpa using hh)] at h3
  have := Int.emod_lt_of_pos t h
  have h5 := Int.natAbs_of_nonneg (by omega : 0 ≤ s)
  omega
theorem tdiv_bound {t s B : Int} (_h : 0 < s) (h1 : -B ≤ t) (h2 : t ≤ B) : -B ≤ t.tdiv s ∧ t.tdiv s ≤ B := by
 have := Int.natAbs_tdiv_le_natAbs t s
 omega
theorem tmod_bound {t s : Int} (h : 0 < s) : -s < t.tmod s ∧ t.tmod s < s := by
 have h3 := Int.tmod_eq_emod (a := t) (b := s)
 have := Int.emod_lt_of_pos t h
 have h6 := Int.emod_nonneg t (by omega : s ≠ 0)
 have h5 := Int.natAbs_of_nonneg (by omega : 0 ≤ s)
 split at h3 <;> omega
/-- Of a valid time and size: the floor and its multiple are bounded. -/
theorem floor_facts {t size : Int} (hb1 : 1 ≤ size) (hb3 : -1099511627776 ≤ t) (hb4 : t ≤ 1099511627776) :
  t / size * size ≤ t ∧ t < t / size * size + size ∧ (t / size + 1) * size = t / size * size + size ∧ -1099511627776 ≤ t / size ∧ t / size ≤ 1099511627776 := by
 have q1 := Int.ediv_mul_le t (by omega : size ≠ 0)
 have q2 := Int.lt_ediv_add_one_mul_self t (by omega : 0 < size)
 have q3 : (t / size + 1) * size = t / size * size + size := by rw [Int.add_mul]; omega
 have a1 : t / size ≤ 1099511627776 := by
  by_cases h7 : t / size ≤ 1099511627776
  ·exact h7
  ·have := Int.mul_le_mul_of_nonneg_left hb1 (by omega : 0 ≤ t / size); omega
 have a2 : -1099511627776 ≤ t / size := by
  by_cases h7 : -1099511627776 ≤ t / size
  ·exact h7
  ·have := Int.mul_le_mul_of_nonpos_left (by omega : t / size + 1 ≤ 0) hb1; rw [q3] at this; simp at this; omega
 exact ⟨q1, by omega, q3, a2, a1⟩
set_option maxHeartbeats 400000 in
theorem check_any (t size : Int) (w : World) :
  Calls Tryz.prog 105 #[.int .i64 t, .int .i64 size] w fun e w' => e = .returned (.int .i64 (tchk t size)) ∧ w = w' := by
 go_enter Tryz.func105, Tryz.ntmps105
 go_wp2
 all_goals (go_ret; exact ⟨ret_i64 (by unfold tchk; (repeat' split) <;> omega), rfl⟩)
set_option maxHeartbeats 400000 in
theorem number_any (t size : Int) (w : World) :
  Calls Tryz.prog 75 #[.int .i64 t, .int .i64 size] w fun e w' => e = .returned (.tuple #[.int .i64 (tnum t size), .int .i64 (tchk t size)]) ∧ w = w' := by
 by_cases h : tchk t size = 0
 ·obtain ⟨hb1, hb2, hb3, hb4⟩ := tchk_zero.1 h
  have h' : (tchk t size != 0) = false := by simp [h]
  have h0 := Lib.hid h; clear h
  obtain ⟨hd1, hd2⟩ := tdiv_bound (by omega : 0 < size) hb3 hb4
  obtain ⟨hm1, hm2⟩ := tmod_bound (t := t) (by omega : 0 < size)
  go_enter Tryz.func75, Tryz.ntmps75
  go_wp2_with (go_at_call 105; refine (check_any _ _ _).mono ?_; rintro e w' ⟨rfl, rfl⟩)
  all_goals go_ret2
  ·have hlt : t.tmod size < 0 := by assumption
   exact ⟨ret2_i64 (by unfold tnum; rw [if_pos h0.out, ← tdiv_floor (by omega) hlt]) h0.out.symm, rfl⟩
  ·have hlt : ¬ t.tmod size < 0 := by omega
   exact ⟨ret2_i64 (by unfold tnum; rw [if_pos h0.out, ← tdiv_floor' (by omega) hlt]) h0.out.symm, rfl⟩
 ·have h' : (tchk t size != 0) = true := by simp [h]
  have h0 := Lib.hid h; clear h
  go_enter Tryz.func75, Tryz.ntmps75
  go_wp2_with (go_at_call 105; refine (check_any _ _ _).mono ?_; rintro e w' ⟨rfl, rfl⟩)
  go_ret2
  exact ⟨ret2_i64 (by unfold tnum; rw [if_neg h0.out]) rfl, rfl⟩
set_option maxHeartbeats 400000 in
theorem of_any (t size : Int) (w : World) :
  Calls Tryz.prog 36 #[.int .i64 t, .int .i64 size] w fun e w' => e = .returned (.tuple #[.agg #[.int .i64 (tspan t size).1, .int .i64 (tspan t size).2], .int .i64 (tchk t size)]) ∧ Below w.heap.size w w' := by
 by_cases h : tchk t size = 0
 ·obtain ⟨hb1, hb2, hb3, hb4⟩ := tchk_zero.1 h
  have h' : (tchk t size != 0) = false := by simp [h]
  have h0 := Lib.hid h; clear h
  go_enter Tryz.func36, Tryz.ntmps36
  go_wp2_with (go_at_call 75; refine (number_any _ _ _).mono ?_; rintro e w' ⟨rfl, rfl⟩)
  have ht : tnum t size = t / size := by unfold tnum; rw [if_pos h0.out]
  obtain ⟨q1, q2, q3, a2, a1⟩ := floor_facts hb1 hb3 hb4
  have r1 : wrap64 (tnum t size * size) = t / size * size := by rw [ht]; exact IntWalk.wrap64_in _ ⟨by omega, by omega⟩
  have r2 : wrap64 (tnum t size + 1) = t / size + 1 := by rw [ht]; exact IntWalk.wrap64_in _ ⟨by omega, by omega⟩
  have r3 : wrap64 (wrap64 (tnum t size + 1) * size) = t / size * size + size := by rw [r2, q3]; exact IntWalk.wrap64_in _ ⟨by omega, by omega⟩
  refine bodyPost_ret (v := .tuple #[.agg #[.int .i64 (wrap64 (tnum t size * size)), .int .i64 (wrap64 (wrap64 (tnum t size + 1) * size))], .int .i64 0]) (by simp [results, Tryz.results36, go_sem]) rfl ⟨?_, ?_⟩
  ·rw [r1, r3]; simp [tspan, h0.out]
  ·exact (Below.refl _ _).alloc (Nat.le_refl _) _
 ·have h' : (tchk t size != 0) = true := by simp [h]
  have h0 := Lib.hid h; clear h
  go_enter Tryz.func36, Tryz.ntmps36
  go_wp2_with (go_at_call 75; refine (number_any _ _ _).mono ?_; rintro e w' ⟨rfl, rfl⟩)
  refine bodyPost_ret (v := .tuple #[.agg #[.int .i64 0, .int .i64 0], .int .i64 (tchk t size)]) (by simp [results, Tryz.results36, go_sem]) rfl ⟨?_, ?_⟩
  ·simp [tspan, h0.out]
  ·exact (Below.refl _ _).alloc (Nat.le_refl _) _
set_option maxHeartbeats 400000 in
theorem rcheck_any (t size : Int) (w : World) :
  Calls Tryz.prog 119 #[.int .i64 t, .int .i64 size] w fun e w' => e = .returned (.int .i64 (tchk t size)) ∧ w = w' := by
 go_enter Tryz.func119, Tryz.ntmps119
 go_wp2
 all_goals (go_ret; exact ⟨ret_i64 (by unfold tchk; (repeat' split) <;> omega), rfl⟩)
end Go.Proofs.YtnljihjhmgpcoaaGreat
namespace Go.Proofs.YtnljihjhmgpcoaaGreat
open Go.RowKit Go.WideShapes Go.ChangeShapes Go.ChangeAt
def wok (k s e : Int) : Prop := (1 ≤ s ∧ s ≤ 1073741824) ∧ ((k = 2 ∧ 1 ≤ e ∧ e ≤ s ∧ s ≤ 16 * e) ∨ ((k = 1 ∨ k = 3) ∧ e = 0))
instance (k s e : Int) : Decidable (wok k s e) := by unfold wok; infer_instance
def wchk (k s e : Int) : Int := if wok k s e then 0 else 8
set_option maxHeartbeats 2000000 in
theorem window_any (k s e : Int) (we : (Lit.int .i64 e).wf = true) (w : World) :
  Calls Tryz.prog 53 #[.agg #[.int .u8 k, .int .i64 s, .int .i64 e]] w fun r w' => r = .returned (.int .i64 (wchk k s e)) ∧ Below w.heap.size w w' := by
 obtain ⟨b1, b2⟩ := bounds_i64 we
 clear we
 go_enter Tryz.func53, Tryz.ntmps53
 go_wp2
 all_goals (go_ret; exact ⟨ret_i64 (by unfold wchk wok; grind), bel⟩)
set_option maxHeartbeats 2000000 in
theorem fits_any (k s e : Int) (we : (Lit.int .i64 e).wf = true) (w : World) :
  Calls Tryz.prog 74 #[.agg #[.int .u8 k, .int .i64 s, .int .i64 e]] w fun r w' => r = .returned (.bool (decide (wok k s e))) ∧ Below w.heap.size w w' := by
 obtain ⟨b1, b2⟩ := bounds_i64 we
 clear we
 go_enter Tryz.func74, Tryz.ntmps74
 go_wp2
 all_goals (go_ret; exact ⟨ret_bool (by unfold wok; grind), bel⟩)
set_option maxHeartbeats 2000000 in
theorem rwindow_any (k s e : Int) (we : (Lit.int .i64 e).wf = true) (w : World) :
  Calls Tryz.prog 33 #[.agg #[.int .u8 k, .int .i64 s, .int .i64 e]] w fun r w' => r = .returned (.int .i64 (wchk k s e)) ∧ Below w.heap.size w w' := by
 have hL : Loc w [] := trivial
 by_cases h : wok k s e
 ·have h1 : decide (wok k s e) = true := by simp [h]
  have h2 : wchk k s e = 0 := by simp [wchk, h]
  have H := Lib.hid h2
  clear h h2
  go_enter Tryz.func33, Tryz.ntmps33
  go_wp2_with (go_at_call 74; refine (fits_any _ _ _ we _).mono ?_; rintro r w1 ⟨rfl, hb1⟩; replace hL := kp hb1; (repeat rw [World.size_alloc] at hL); have hF := hL; (repeat unfold Loc at hF))
  go_ret
  exact ⟨ret_i64 H.out.symm, bel⟩
 ·have h1 : decide (wok k s e) = false := by simp [h]
  have h2 : wchk k s e = 8 := by simp [wchk, h]
  have H := Lib.hid h2
  clear h h2
  go_enter Tryz.func33, Tryz.ntmps33
  go_wp2_with (go_at_call 74; refine (fits_any _ _ _ we _).mono ?_; rintro r w1 ⟨rfl, hb1⟩; replace hL := kp hb1; (repeat rw [World.size_alloc] at hL); have hF := hL; (repeat unfold Loc at hF))
  go_ret
  exact ⟨ret_i64 H.out.symm, bel⟩
theorem ret_pair {J : Int × Int} {a e : Int} (h : J = (a, e)) :
  Ending.returned (.tuple #[.int .i64 a, .int .i64 e]) = .returned (.tuple #[.int .i64 J.1, .int .i64 J.2]) := by rw [h]
set_option maxHeartbeats 400000 in
theorem aof_any (v : Int) (w : World) :
  Calls Tryz.prog 38 #[.int .i64 v] w fun e w' => e = .returned (.agg #[.int .i64 1, .int .i64 v, .int .i64 v, .int .i64 v]) ∧ Below w.heap.size w w' := by
 go_enter Tryz.func38, Tryz.ntmps38
 go_wp2
 refine bodyPost_ret (v := _) (by rw [results_cell1 Tryz.results38]; go_simp; rfl) rfl ⟨?_, ?_⟩
 ·rfl
 ·exact bel
/-- An aggregate's number. -/
def atold (g : Int) (a : Acc) : Int := if g = 1 then a.c else if g = 2 then a.s else if g = 3 then a.m else a.x
def avalue (g : Int) (a : Acc) : Int × Int := if g < 1 ∨ 4 < g then (0, 2) else if ¬ a.ok then (0, 8) else if a.c = 0 then (0, 6) else (atold g a, 0)
set_option maxHeartbeats 1000000 in
theorem avalue_any (g c s m x : Int) (w : World) :
  Calls Tryz.prog 17 #[.int .u8 g, .agg #[.int .i64 c, .int .i64 s, .int .i64 m, .int .i64 x]] w fun e w' =>
   e = .returned (.tuple #[.int .i64 (avalue g ⟨c, s, m, x⟩).1, .int .i64 (avalue g ⟨c, s, m, x⟩).2]) ∧ Below w.heap.size w w' := by
 have hL : Loc w [] := trivial
 by_cases hg : 1 ≤ g ∧ g ≤ 4
 ·by_cases ha : Acc.ok ⟨c, s, m, x⟩
  ·have e1 : acheck ⟨c, s, m, x⟩ = 0 := by simp [acheck, ha]
   have ha' := Lib.hid ha
   clear ha
   rcases (by omega : g = 1 ∨ g = 2 ∨ g = 3 ∨ g = 4) with rfl | rfl | rfl | rfl
   all_goals
    go_enter Tryz.func17, Tryz.ntmps17
    go_wp2_with (go_at_call 44; refine (acheck_any _ _ _ _ _).mono ?_; rintro e w1 ⟨rfl, hb1⟩; replace hL := kp hb1; (repeat rw [World.size_alloc] at hL); have hF := hL; (repeat unfold Loc at hF))
    all_goals (go_ret2; exact ⟨ret_pair (by have ha := ha'.out; unfold avalue atold; grind), bel⟩)
  ·have e1 : acheck ⟨c, s, m, x⟩ = 8 := by simp [acheck, ha]
   have ha' := Lib.hid ha
   clear ha
   obtain ⟨h1, h2⟩ := hg
   go_enter Tryz.func17, Tryz.ntmps17
   go_wp2_with (go_at_call 44; refine (acheck_any _ _ _ _ _).mono ?_; rintro e w1 ⟨rfl, hb1⟩; replace hL := kp hb1; (repeat rw [World.size_alloc] at hL); have hF := hL; (repeat unfold Loc at hF))
   all_goals (go_ret2; exact ⟨ret_pair (by have ha := ha'.out; unfold avalue; grind), bel⟩)
 ·by_cases h1 : g < 1
  ·go_enter Tryz.func17, Tryz.ntmps17
   go_wp2_with fail
   all_goals (go_ret2; exact ⟨ret_pair (by unfold avalue; grind), bel⟩)
  ·have h2 : 4 < g := by omega
   go_enter Tryz.func17, Tryz.ntmps17
   go_wp2_with fail
   all_goals (go_ret2; exact ⟨ret_pair (by unfold avalue; grind), bel⟩)
end Go.Proofs.YtnljihjhmgpcoaaGreat
namespace Go.Proofs.YtnljihjhmgpcoaaGreat
open Go Go.RowKit
section
variable {P : Program} {md : Region.Mode} {ops : Array Oper} {Q : Exit → Act → World → Prop} {S : Array Bool → World → Prop} {S0 : World → Prop} {T : Array Bool → Prop}
/-- Whatever order is picked from here on, and S holds behind every operation, of those that have come up. -/
def wpAnyL (P : Program) (md : Region.Mode) (ops : Array Oper) (Q : Exit → Act → World → Prop) (S : Array Bool → World → Prop) : Nat → Array Bool → Act → World → Prop
 | 0, listed, a, w => Region.ready md ops listed = [] ∧ Q .normal a w
 | fuel + 1, listed, a, w =>
  (Region.ready md ops listed = [] → Q .normal a w) ∧
  ∀ i ∈ Region.ready md ops listed, wpOp P ops Q i (fun a' w' => S (listed.setIfInBounds i true) w' ∧ wpAnyL P md ops Q S fuel (listed.setIfInBounds i true) a' w') a w
theorem wpAny_ofL : ∀ (fuel : Nat) (listed : Array Bool) (a : Act) (w : World), wpAnyL P md ops Q S fuel listed a w → wpAny P md ops Q fuel listed a w
 | 0, _, _, _, h => h
 | fuel + 1, _, _, _, h => ⟨h.1, fun i hi => wpOp_mono (fun a' w' h' => wpAny_ofL fuel _ a' w' h'.2) (h.2 i hi)⟩
theorem wpAnyL_first {i : Nat} {oi : Oper} {v : Value} (hi : ops[i]? = some oi) (hsel : ∀ (j : Nat) (o : Oper) cs b, ops[j]? = some o → o.op ≠ .select cs b)
  (hQ : ∀ c a w, Q (.panic c) (a.put oi.dst v) w → Q (.panic c) a w)
  (hT : ∀ L j, T L → j ∈ Region.ready md ops L → j ≠ i → i ∈ Region.ready md ops L → T (L.setIfInBounds j true))
  (hST : ∀ L w, S L w → T L → S0 w) (hset : ∀ L w, S (L.setIfInBounds i true) w ↔ S L w) :
  ∀ (fuel : Nat) (listed : Array Bool) (a : Act) (w : World),
   (∀ j oj, ops[j]? = some oj → j ≠ i → listed.getD j true = false → (∀ e ∈ oj.after, Region.binds md e = true → e.on ≠ i) → oi.apart ops oj = true) →
   i ∈ Region.ready md ops listed → T listed → YieldsIf P ops S0 oi v a → S listed w →
   wpAnyL P md ops Q S fuel (listed.setIfInBounds i true) (a.put oi.dst v) w → wpAnyL P md ops Q S (fuel + 1) listed a w := by
 intro fuel
 induction fuel with
 | zero =>
  intro listed a w _ hr hTl hy hS H
  refine ⟨fun h => (by rw [h] at hr; cases hr), fun j hj => ?_⟩
  by_cases hji : j = i
  ·subst hji; exact hy.wpOp hi (hST _ _ hS hTl) ⟨(hset _ _).2 hS, H⟩
  ·have := ready_mono hj hji
   rw [H.1] at this
   cases this
 | succ fuel ih =>
  intro listed a w hfree hr hTl hy hS H
  refine ⟨fun h => (by rw [h] at hr; cases hr), fun j hj => ?_⟩
  by_cases hji : j = i
  ·subst hji; exact hy.wpOp hi (hST _ _ hS hTl) ⟨(hset _ _).2 hS, H⟩
  ·have h1 := H.2 j (ready_mono hj hji)
   obtain ⟨hjun, oj, hoj, hall⟩ := mem_ready.1 hj
   have hnot : ∀ e ∈ oj.after, Region.binds md e = true → e.on ≠ i := fun e he hb heq => by
    have h1 := hall e he hb
    have h0 := (mem_ready.1 hr).1
    rw [heq] at h1
    rcases Nat.lt_or_ge i listed.size with h' | h'
    ·simp [h'] at h0 h1; rw [h0] at h1; cases h1
    ·simp [Array.getElem?_eq_none h'] at h1
   have h2 := wpOp_putIf hoj (hfree j oj hoj hji hjun hnot) (fun cs b => hsel i oi cs b hi) (fun cs b => hsel j oj cs b hoj) hQ hy h1
   have hfree' : ∀ k ok, ops[k]? = some ok → k ≠ i → (listed.setIfInBounds j true).getD k true = false →
     (∀ e ∈ ok.after, Region.binds md e = true → e.on ≠ i) → oi.apart ops ok = true := fun k ok hk hki hun hno => by
    refine hfree k ok hk hki ?_ hno
    by_cases hjk : j = k
    ·subst hjk; exact hjun
    ·rw [getD_set_ne true hjk] at hun; exact hun
   refine wpOp_mono (fun a' w' h3 => ?_) h2
   have h4 : S (listed.setIfInBounds j true) w' := by
    have h5 := h3.2.1
    rw [Array.setIfInBounds_comm _ _ (Ne.symm hji)] at h5
    exact (hset _ _).1 h5
   refine ⟨h4, ih (listed.setIfInBounds j true) a' w' hfree' (ready_mono hr (Ne.symm hji)) (hT _ _ hTl hj hji hr) h3.1 h4 ?_⟩
   rw [Array.setIfInBounds_comm _ _ hji]
   exact h3.2.2
/-- Number i, that yields in whatever world, is taken first. -/
theorem lTake (i : Nat) {fuel : Nat} {listed : Array Bool} {a : Act} {w : World}
  (hs : Region.noSelect ops = true) (hf : Region.free md ops listed i = true) (hr : (Region.ready md ops listed).contains i = true) (hlt : i < ops.size) (hset : ∀ L w, S (L.setIfInBounds i true) w ↔ S L w) (hS : S listed w)
  (h : ∀ oi, ops[i]? = some oi → Region.wanted oi (yielded ops a.tmps) = true ∧ ∃ v, (∀ w : World, (execOp a.eval oi).run P w = .ok (.value v) w) ∧ (∀ c a w, Q (.panic c) (a.put oi.dst v) w → Q (.panic c) a w) ∧
   wpAnyL P md ops Q S fuel (listed.setIfInBounds i true) (a.put oi.dst v) w) : wpAnyL P md ops Q S (fuel + 1) listed a w := by
 obtain ⟨h1, v, h2, h3, h4⟩ := h _ (Array.getElem?_eq_getElem hlt)
 exact wpAnyL_first (S0 := fun _ => True) (T := fun _ => True) (Array.getElem?_eq_getElem hlt) (Region.noSelect_spec hs) h3 (fun _ _ _ _ _ _ => trivial) (fun _ _ _ _ => trivial) hset fuel listed a w (Region.free_spec (Array.getElem?_eq_getElem hlt) hf) (by simpa using hr) trivial (.inl ⟨h1, fun w _ => h2 w⟩) hS h4
/-- Number i, that yields its value as long as number c, which waits for it, has not come up. -/
theorem lLoad (i c : Nat) {fuel : Nat} {listed : Array Bool} {a : Act} {w : World}
  (hs : Region.noSelect ops = true) (hf : Region.free md ops listed i = true) (hr : (Region.ready md ops listed).contains i = true) (hlt : i < ops.size) (hset : ∀ L w, S (L.setIfInBounds i true) w ↔ S L w) (hS : S listed w)
  (hc : ∀ oc, ops[c]? = some oc → oc.after.any (fun e => Region.binds md e && e.on == i) = true) (hlc : listed.getD c false = false) (hic : i ≠ c) (hST : ∀ L w, S L w → L.getD c false = false → S0 w)
  (h : ∀ oi, ops[i]? = some oi → Region.wanted oi (yielded ops a.tmps) = true ∧ ∃ v, (∀ w : World, S0 w → (execOp a.eval oi).run P w = .ok (.value v) w) ∧ (∀ c a w, Q (.panic c) (a.put oi.dst v) w → Q (.panic c) a w) ∧
   wpAnyL P md ops Q S fuel (listed.setIfInBounds i true) (a.put oi.dst v) w) : wpAnyL P md ops Q S (fuel + 1) listed a w := by
 obtain ⟨h1, v, h2, h3, h4⟩ := h _ (Array.getElem?_eq_getElem hlt)
 refine wpAnyL_first (S0 := S0) (T := fun L => L.getD c false = false) (Array.getElem?_eq_getElem hlt) (Region.noSelect_spec hs) h3 (fun L j hTL hj hji hiL => ?_) hST hset fuel listed a w (Region.free_spec (Array.getElem?_eq_getElem hlt) hf) (by simpa using hr) hlc (.inl ⟨h1, h2⟩) hS h4
 have hjc : j ≠ c := by
  rintro rfl
  obtain ⟨_, oj, hoj, hall⟩ := mem_ready.1 hj
  have h5 := hc oj hoj
  rw [Array.any_eq_true] at h5
  obtain ⟨n, hn, h6⟩ := h5
  simp only [Bool.and_eq_true, beq_iff_eq] at h6
  have h7 := hall _ (Array.getElem_mem hn) h6.1
  rw [h6.2] at h7
  have h0 := (mem_ready.1 hiL).1
  rcases Nat.lt_or_ge i L.size with h' | h'
  ·simp [h'] at h0 h7; rw [h0] at h7; cases h7
  ·simp [Array.getElem?_eq_none h'] at h7
 show (L.setIfInBounds j true).getD c false = false
 rw [getD_set_ne false hjc]
 exact hTL
/-- The only one that may come up. -/
theorem lOnly (i : Nat) {fuel : Nat} {listed : Array Bool} {a : Act} {w : World} (hr : Region.ready md ops listed = [i]) (hlt : i < ops.size)
  (h : ∀ o, ops[i]? = some o → ∀ K' : Act → World → Prop, Shut (∀ a w, S (listed.setIfInBounds i true) w → wpAnyL P md ops Q S fuel (listed.setIfInBounds i true) a w → K' a w) → if Region.wanted o (yielded ops a.tmps) = true then Oper.wp P o a w K' Q else K' (a.put o.dst undef) w) :
  wpAnyL P md ops Q S (fuel + 1) listed a w := by
 refine ⟨fun h0 => absurd (hr ▸ h0) (by simp), fun j hj => ?_⟩
 rw [hr, List.mem_singleton] at hj
 subst hj
 have h1 := h _ (Array.getElem?_eq_getElem hlt) (fun a' w' => S (listed.setIfInBounds j true) w' ∧ wpAnyL P md ops Q S fuel (listed.setIfInBounds j true) a' w') (show Shut _ from fun a w h2 h3 => ⟨h2, h3⟩)
 unfold wpOp
 rw [Array.getElem?_eq_getElem hlt]
 dsimp only
 split
 ·rename_i hw
  rw [if_pos hw] at h1
  exact .inl h1
 ·rename_i hw
  rw [if_neg hw] at h1
  exact h1
theorem lDone {listed : Array Bool} {a : Act} {w : World} (hr : Region.ready md ops listed = []) (h : Q .normal a w) : ∀ fuel, wpAnyL P md ops Q S fuel listed a w
 | 0 => ⟨hr, h⟩
 | _ + 1 => ⟨fun _ => h, by rw [hr]; simp⟩
/-- As long as one of some operations has not come up, E holds. -/
def PhS (cs : List Nat) (E : World → Prop) (L : Array Bool) (w : World) : Prop := (∃ c ∈ cs, L.getD c false = false) → E w
theorem PhS.set {cs : List Nat} {E : World → Prop} {L : Array Bool} {w : World} {i : Nat} (hi : i ∉ cs) : PhS cs E (L.setIfInBounds i true) w ↔ PhS cs E L w := by
 unfold PhS
 have e : (∃ c ∈ cs, (L.setIfInBounds i true).getD c false = false) ↔ (∃ c ∈ cs, L.getD c false = false) := by
  constructor
  ·rintro ⟨c, hc, h⟩
   have hne : i ≠ c := by rintro rfl; exact hi hc
   exact ⟨c, hc, by rwa [getD_set_ne false hne] at h⟩
  ·rintro ⟨c, hc, h⟩
   have hne : i ≠ c := by rintro rfl; exact hi hc
   exact ⟨c, hc, by rwa [getD_set_ne false hne]⟩
 rw [e]
theorem PhS.get {cs : List Nat} {E : World → Prop} {L : Array Bool} {w : World} {c : Nat} (hc : c ∈ cs) (h : PhS cs E L w) (h0 : L.getD c false = false) : E w := h ⟨c, hc, h0⟩
theorem PhS.of {cs : List Nat} {E : World → Prop} {L : Array Bool} {w : World} (h : E w) : PhS cs E L w := fun _ => h
theorem PhS.done {cs : List Nat} {E : World → Prop} {L : Array Bool} {w : World} (h : (cs.all fun c => L.getD c false) = true) : PhS cs E L w := by
 rintro ⟨c, hc, h0⟩
 have := List.all_eq_true.1 h c hc
 rw [h0] at this
 cases this
theorem wp_region_L {id : Nat} {a : Act} {w : World} (hm : P.follows .mixedOrders = true) (S : Array Bool → World → Prop)
  (h : wpAnyL P .any ops Q S ops.size (Array.replicate ops.size false) a w.drew) : (Code.region id ops true).wp P Q a w :=
 wp_region_any hm (wpAny_ofL _ _ _ _ h)
end
variable {P : Program} {md : Region.Mode} {ops : Array Oper} {Q : Exit → Act → World → Prop} {E : World → Prop} {cs : List Nat}
theorem lT (i : Nat) {fuel : Nat} {listed listed' : Array Bool} {a a' : Act} {w : World} {oi : Oper} {v : Value}
  (h : wpAnyL P md ops Q (PhS cs E) fuel listed' a' w)
  (hs : Region.noSelect ops = true := by kernel_rfl) (hf : Region.free md ops listed i = true := by kernel_rfl) (hr : (Region.ready md ops listed).contains i = true := by kernel_rfl) (hlt : i < ops.size := by decide) (hc : i ∉ cs := by decide)
  (hS : PhS cs E listed w := by (first | exact PhS.of (by (first | assumption | exact Env.step (by assumption) (by assumption) | exact Env.old (by assumption) _ | exact Env.drew hE | exact hE | exact Env.drew (by assumption) | exact Env.drew (Env.old (by assumption) _) | ((repeat first | refine Env.far0 ?_ (by assumption) _ | refine Env.far1 ?_ (by assumption) _ | refine Env.farA ?_ (by assumption) _); assumption))) | exact PhS.done (by kernel_rfl)))
  (ho : ops[i]? = some oi := by (try simp only [List.getElem?_toArray, List.getElem?_cons_succ, List.getElem?_cons_zero]); exact rfl)
  (hw : Region.wanted oi (yielded ops a.tmps) = true := by exact rfl)
  (hp : ∀ c a w, Q (.panic c) (a.put oi.dst v) w → Q (.panic c) a w := by exact fun _ _ _ h => h)
  (hx : ∀ w : World, (execOp a.eval oi).run P w = .ok (.value v) w := by (intro w; go_simp; (try with_reducible rfl)))
  (hl : listed.setIfInBounds i true = listed' := by (try simp only [List.setIfInBounds_toArray, List.set_cons_zero, List.set_cons_succ]); (try exact rfl))
  (ha : a.put oi.dst v = a' := by (try simp only [Act.put, List.setIfInBounds_toArray, List.set_cons_zero, List.set_cons_succ]); (try exact rfl)) : wpAnyL P md ops Q (PhS cs E) (fuel + 1) listed a w := by
 subst hl ha
 refine lTake i hs hf hr hlt (fun L w => PhS.set hc) hS fun o ho' => ?_
 rw [ho] at ho'
 obtain rfl := Option.some.inj ho'
 exact ⟨hw, v, hx, hp, h⟩
theorem lL (i c : Nat) {fuel : Nat} {listed listed' : Array Bool} {a a' : Act} {w : World} {oi oc : Oper} {v : Value}
  (h : wpAnyL P md ops Q (PhS cs E) fuel listed' a' w)
  (hs : Region.noSelect ops = true := by kernel_rfl) (hf : Region.free md ops listed i = true := by kernel_rfl) (hr : (Region.ready md ops listed).contains i = true := by kernel_rfl) (hlt : i < ops.size := by decide) (hc : i ∉ cs := by decide)
  (hS : PhS cs E listed w := by exact PhS.of (by (first | assumption | exact Env.step (by assumption) (by assumption) | exact Env.old (by assumption) _ | exact Env.drew hE | exact hE | exact Env.drew (by assumption) | exact Env.drew (Env.old (by assumption) _) | ((repeat first | refine Env.far0 ?_ (by assumption) _ | refine Env.far1 ?_ (by assumption) _ | refine Env.farA ?_ (by assumption) _); assumption))))
  (hoc : ops[c]? = some oc := by (try simp only [List.getElem?_toArray, List.getElem?_cons_succ, List.getElem?_cons_zero]); exact rfl)
  (hoa : oc.after.any (fun e => Region.binds md e && e.on == i) = true := by kernel_rfl) (hlc : listed.getD c false = false := by kernel_rfl) (hic : i ≠ c := by decide) (hcc : c ∈ cs := by decide)
  (ho : ops[i]? = some oi := by (try simp only [List.getElem?_toArray, List.getElem?_cons_succ, List.getElem?_cons_zero]); exact rfl)
  (hw : Region.wanted oi (yielded ops a.tmps) = true := by exact rfl)
  (hp : ∀ c a w, Q (.panic c) (a.put oi.dst v) w → Q (.panic c) a w := by exact fun _ _ _ h => h)
  (hx : ∀ w : World, E w → (execOp a.eval oi).run P w = .ok (.value v) w := by (intro w hSw; (try dsimp only at hSw); go_simp; (try with_reducible rfl)))
  (hl : listed.setIfInBounds i true = listed' := by (try simp only [List.setIfInBounds_toArray, List.set_cons_zero, List.set_cons_succ]); (try exact rfl))
  (ha : a.put oi.dst v = a' := by (try simp only [Act.put, List.setIfInBounds_toArray, List.set_cons_zero, List.set_cons_succ]); (try exact rfl)) : wpAnyL P md ops Q (PhS cs E) (fuel + 1) listed a w := by
 subst hl ha
 refine lLoad i c (S0 := E) hs hf hr hlt (fun L w => PhS.set hc) hS (fun o ho' => ?_) hlc hic (fun L w => PhS.get hcc) fun o ho' => ?_
 ·rw [hoc] at ho'
  obtain rfl := Option.some.inj ho'
  exact hoa
 rw [ho] at ho'
 obtain rfl := Option.some.inj ho'
 exact ⟨hw, v, hx, hp, h⟩
theorem lC (i : Nat) {S : Array Bool → World → Prop} {fuel : Nat} {listed : Array Bool} {a : Act} {w : World} {o : Oper}
  (h : ∀ K' : Act → World → Prop, Shut (∀ a w, S (listed.setIfInBounds i true) w → wpAnyL P md ops Q S fuel (listed.setIfInBounds i true) a w → K' a w) → if Region.wanted o (yielded ops a.tmps) = true then Oper.wp P o a w K' Q else K' (a.put o.dst undef) w)
  (hr : Region.ready md ops listed = [i] := by kernel_rfl) (hlt : i < ops.size := by decide)
  (ho : ops[i]? = some o := by (try simp only [List.getElem?_toArray, List.getElem?_cons_succ, List.getElem?_cons_zero]); exact rfl) : wpAnyL P md ops Q S (fuel + 1) listed a w := by
 refine lOnly i hr hlt fun o' ho' => ?_
 rw [ho] at ho'
 obtain rfl := Option.some.inj ho'
 exact h
theorem lKp {fuel : Nat} {listed listed' : Array Bool} {a a' : Act} {w : World} {K : Act → World → Prop} (hK : Shut (∀ a w, PhS cs E listed w → wpAnyL P md ops Q (PhS cs E) fuel listed a w → K a w))
  (h : wpAnyL P md ops Q (PhS cs E) fuel listed' a' w)
  (hS : PhS cs E listed w := by (first | exact PhS.of (by (first | assumption | exact Env.step (by assumption) (by assumption) | exact Env.old (by assumption) _ | exact Env.drew hE | exact hE | exact Env.drew (by assumption) | exact Env.drew (Env.old (by assumption) _) | ((repeat first | refine Env.far0 ?_ (by assumption) _ | refine Env.far1 ?_ (by assumption) _ | refine Env.farA ?_ (by assumption) _); assumption))) | exact PhS.done (by kernel_rfl)))
  (hl : listed = listed' := by (try simp only [List.setIfInBounds_toArray, List.set_cons_zero, List.set_cons_succ]); (try exact rfl))
  (ha : a = a' := by (try simp only [Act.put, List.setIfInBounds_toArray, List.set_cons_zero, List.set_cons_succ]); (try exact rfl)) : K a w := by
 subst hl ha
 exact hK.out _ _ hS h
end Go.Proofs.YtnljihjhmgpcoaaGreat
