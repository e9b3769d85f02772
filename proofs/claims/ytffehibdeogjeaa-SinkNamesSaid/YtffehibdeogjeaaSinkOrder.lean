/- The reference's order: the indices of lists of numbers, by merging (chapter 34). Condition: at most 5000 lists of at most 1000 numbers. -/
import Derived.Test.YtffehibdeogjeaaSinkKeys
namespace Go.Proofs.Ytffehibdeogjeaa
open Go.RowKit

/-! ### merging, of plain lists -/
/-- What is merged so far. -/
def MI (le : Nat → Nat → Prop) (La Lb : List Nat) (i k : Nat) (O : List Nat) : Prop :=
  O.Perm (La.take i ++ Lb.take k) ∧ O.Pairwise le ∧ (∀ x ∈ O, ∀ y ∈ La.drop i, le x y) ∧ ∀ x ∈ O, ∀ y ∈ Lb.drop k, le x y
theorem mi_nil (le : Nat → Nat → Prop) (La Lb : List Nat) : MI le La Lb 0 0 [] := ⟨by simp, List.Pairwise.nil, by simp, by simp⟩
theorem mi_left {le : Nat → Nat → Prop} {La Lb : List Nat} {i k x : Nat} {O : List Nat} (h : MI le La Lb i k O) (hx : La[i]? = some x) (ha : La.Pairwise le) (hb : ∀ y ∈ Lb.drop k, le x y) : MI le La Lb (i + 1) k (O ++ [x]) := by
  obtain ⟨h1, h2, h3, h4⟩ := h
  have hd := drop_cons hx
  refine ⟨?_, ?_, ?_, ?_⟩
  · rw [List.take_add_one, hx]
    simp only [Option.toList_some]
    refine (h1.append_right [x]).trans ?_
    rw [List.append_assoc, List.append_assoc]
    exact List.Perm.append_left _ List.perm_append_comm
  · refine List.pairwise_append.2 ⟨h2, by simp, fun a ha' b hb' => ?_⟩
    simp only [List.mem_singleton] at hb'
    subst hb'
    exact h3 a ha' b (by rw [hd]; simp)
  · intro a ha' y hy
    rcases List.mem_append.1 ha' with h | h
    · exact h3 a h y (by rw [hd]; simp [hy])
    · simp only [List.mem_singleton] at h
      subst h
      have := List.Pairwise.drop (i := i) ha
      rw [hd] at this
      exact (List.pairwise_cons.1 this).1 y hy
  · intro a ha' y hy
    rcases List.mem_append.1 ha' with h | h
    · exact h4 a h y hy
    · simp only [List.mem_singleton] at h
      subst h
      exact hb y hy
theorem mi_swap {le : Nat → Nat → Prop} {La Lb : List Nat} {i k : Nat} {O : List Nat} (h : MI le La Lb i k O) : MI le Lb La k i O := ⟨h.1.trans List.perm_append_comm, h.2.1, h.2.2.2, h.2.2.1⟩
theorem mi_right {le : Nat → Nat → Prop} {La Lb : List Nat} {i k x : Nat} {O : List Nat} (h : MI le La Lb i k O) (hx : Lb[k]? = some x) (hb : Lb.Pairwise le) (ha : ∀ y ∈ La.drop i, le x y) : MI le La Lb i (k + 1) (O ++ [x]) :=
  mi_swap (mi_left (mi_swap h) hx hb ha)
theorem le_rest {le : Nat → Nat → Prop} (htr : ∀ {a b c}, le a b → le b c → le a c) {L : List Nat} {k x y : Nat} (hy : L[k]? = some y) (hs : L.Pairwise le) (h : le x y) : ∀ z ∈ L.drop k, le x z := by
  have hd := drop_cons hy
  intro z hz
  rw [hd] at hz
  rcases List.mem_cons.1 hz with rfl | hz
  · exact h
  · have := List.Pairwise.drop (i := k) hs
    rw [hd] at this
    exact htr h ((List.pairwise_cons.1 this).1 z hz)

/-! ### rows of slices -/
def qenc (q : Option Addr × Nat × Nat) : List Value := [.slice q.1 q.2.1 q.2.2]
/-- The slice at A holds slices that read as these lists. -/
def RdKeys (W : World) (B : Nat) (A : Option Addr) (ks : List (List Int)) : Prop :=
  ∃ qs : List (Option Addr × Nat × Nat), qs.length = ks.length ∧ Rd qenc 1 W B A qs ∧ ∀ (i : Nat) (q : Option Addr × Nat × Nat) (k : List Int), qs[i]? = some q → ks[i]? = some k → q.2.1 = k.length ∧ Rd ienc 1 W B q.1 k
theorem RdKeys.grow {W W' : World} {A : Option Addr} {ks : List (List Int)} (h : RdKeys W W.heap.size A ks) (hb : Below W.heap.size W W') : RdKeys W' W'.heap.size A ks := by
  obtain ⟨qs, h1, h2, h3⟩ := h
  exact ⟨qs, h1, rd_grown h2 hb, fun i q k hq hk => ⟨(h3 i q k hq hk).1, rd_grown (h3 i q k hq hk).2 hb⟩⟩
theorem RdKeys.at_ {W : World} {B : Nat} {A : Option Addr} {ks : List (List Int)} (h : RdKeys W B A ks) {i : Nat} {k : List Int} (hk : ks[i]? = some k) :
    ∃ b off Q c, A = some ⟨b, off, none⟩ ∧ b < B ∧ W.cell? ⟨b, off + i, none⟩ = some (.slice Q k.length c) ∧ Rd ienc 1 W B Q k := by
  obtain ⟨qs, h1, h2, h3⟩ := h
  have hi : i < qs.length := by rw [h1]; exact (List.getElem?_eq_some_iff.1 hk).1
  have hq : qs[i]? = some qs[i] := List.getElem?_eq_getElem hi
  obtain ⟨b, off, e, hb, hc⟩ := h2.at_ hq
  obtain ⟨h4, h5⟩ := h3 i _ k hq hk
  refine ⟨b, off, qs[i].1, qs[i].2.2, e, hb, ?_, h5⟩
  have := hc 0 _ rfl
  rw [h4] at this
  simpa using this
def nenc (i : Nat) : List Value := [.int .i64 i]
theorem nenc_len (i : Nat) : (nenc i).length = 1 := rfl
theorem nenc_one (l : List Nat) : ∀ u ∈ l.flatMap nenc, u.oneCell' = true := by
  intro u hu
  obtain ⟨x, _, hx⟩ := List.mem_flatMap.1 hu
  simp [nenc] at hx
  subst hx
  rfl
theorem nat_at {w : World} {B : Nat} {A : Option Addr} {l : List Nat} (h : Rd nenc 1 w B A l) {k x : Nat} (hx : l[k]? = some x) : ∃ b off, A = some ⟨b, off, none⟩ ∧ b < B ∧ w.cell? ⟨b, off + k, none⟩ = some (.int .i64 x) := by
  obtain ⟨b, off, e, hb, hc⟩ := h.at_ hx
  exact ⟨b, off, e, hb, by simpa using hc 0 _ rfl⟩
theorem int_info : (Try.prog.info? 3).map (fun i => (i.zero, i.size, i.bytes)) = some (some (.int .i64 0), 1, 8) := by kernel_rfl

section
variable {α : Type} (key : α → List Int) (lt : α → α → Bool) (hlt : ∀ x y, lowL (key x) (key y) = lt x y) (hst : STO lt) (d : α) (m : Nat) (hkey : ∀ x, (key x).length = m) (hm : m ≤ 1000) (l : List α) (A : Option Addr) (c n : Nat) (hn : l.length = n) (hb : n ≤ 5000)
/-- One index before another one. -/
def leI (i j : Nat) : Prop := lt (l.getD j d) (l.getD i d) = false
include hst in
theorem leI_tr {a b c : Nat} (h1 : leI lt d l a b) (h2 : leI lt d l b c) : leI lt d l a c := hst.le h2 h1
include hlt hst hkey hm hn hb in
set_option maxHeartbeats 8000000 in
set_option maxRecDepth 100000 in
theorem order_any : ∀ (s frm to : Nat), to = frm + s → to ≤ n → ∀ W : World, RdKeys W W.heap.size A (l.map key) →
    Calls Try.prog 94 #[.slice A n c, .int .i64 frm, .int .i64 to] W fun e W' => ∃ v L, e = .returned v ∧ Own nenc 1 W' W.heap.size 3 v L ∧ L.Perm (List.range' frm s) ∧ L.Pairwise (leI lt d l) ∧ Below W.heap.size W W' := by
  obtain ⟨i0, hi0, hz0, hz1, hz2⟩ := info_parts int_info
  intro s
  induction s using Nat.strongRecOn with
  | ind s ih =>
    intro frm to hto hle W hrd
    have e0 : IntKind.i64.wrap ((to : Int) - (frm : Int)) = (s : Int) := by rw [IntWalk.i64_in _ (by omega)]; omega
    by_cases hs2 : s < 2
    · have d2 : decide ((s : Int) < 2) = true := by simp; omega
      by_cases hs1 : s = 1
      · have d1 : decide ((frm : Int) < (to : Int)) = true := by simp; omega
        have d1' : decide (frm < to) = true := by simp; omega
        have hmade := Own.made (enc := nenc) nenc_len W W.heap.size 3 [frm] W.heap.size rfl (Nat.le_refl _) (by unfold maxLen; simp)
        have hp : [frm].Perm (List.range' frm s) := by rw [hs1]; simp
        have HM := Lib.hid hmade; have HP := Lib.hid hp
        clear ih hto hs1 hmade hp
        go_enter Try.func94, Try.ntmps94
        go_wp2
        go_ret
        exact ⟨_, [frm], rfl, HM.out, HP.out, by simp, (by repeat (first | with_reducible exact Below.refl _ _ | with_reducible assumption | (with_reducible exact Env.below (by assumption)) | (with_reducible refine below_new ?_ _) | (with_reducible refine below_drew ?_) | (with_reducible refine below_drewN ?_ _) | (with_reducible refine below_put ?_ ?_ _; rotate_left 1; (dsimp only; omega)) | (with_reducible refine below_then ?_ (by assumption))))⟩
      · have hs0 : s = 0 := by omega
        have d1 : decide ((frm : Int) < (to : Int)) = false := by simp; omega
        have d1' : decide (frm < to) = false := by simp; omega
        have hp : ([] : List Nat).Perm (List.range' frm s) := by rw [hs0]; simp
        have HP := Lib.hid hp
        clear ih hto hs1 hs0 hp
        go_enter Try.func94, Try.ntmps94
        go_wp2
        go_ret
        exact ⟨_, [], rfl, Own.nil _ _ _, HP.out, by simp, Below.refl _ _⟩
    · have d2 : decide ((s : Int) < 2) = false := by simp; omega
      obtain ⟨h, hh⟩ : ∃ h, h = (frm + to) / 2 := ⟨_, rfl⟩
      have e1 : IntKind.i64.wrap ((frm : Int) + (to : Int)) = (frm : Int) + (to : Int) := IntWalk.i64_in _ (by omega)
      have e2 : ((frm : Int) + (to : Int)) / 2 = (h : Int) := by omega
      have e2' : ((frm : Int) + (to : Int)).tdiv 2 = (h : Int) := by rw [Int.tdiv_eq_ediv_of_nonneg (by omega)]; exact e2
      obtain ⟨la, hla⟩ : ∃ la, h = frm + la := ⟨h - frm, by omega⟩
      obtain ⟨lb, hlb⟩ : ∃ lb, to = h + lb := ⟨to - h, by omega⟩
      have IA := Lib.hid (fun W hr => ih la (by omega) frm h hla (by omega) W hr)
      have IB := Lib.hid (fun W hr => ih lb (by omega) h to hlb hle W hr)
      have hrange : List.range' frm la ++ List.range' h lb = List.range' frm s := by
        rw [hla, show frm + la = frm + 1 * la by omega, List.range'_append]
        congr 1
        omega
      have HRG := Lib.hid hrange
      have bh : h ≤ 5000 := by omega
      have bla : la ≤ 5000 := by omega
      have blb : lb ≤ 5000 := by omega
      have HTO := Lib.hid hto
      clear ih hh hla hlb hrange hto
      go_enter Try.func94, Try.ntmps94
      go_wp2_with fail
      go_at_call 94
      refine (IA.out W hrd).mono ?_
      rintro r w1 ⟨v1, La, rfl, own1, pa, sa, hb1⟩
      obtain ⟨A1, c1, rfl, -, -⟩ := own_shape_z own1 (show La.length = la by rw [pa.length_eq, List.length_range'])
      go_wp2_with fail
      go_at_call 94
      refine (IB.out w1 (hrd.grow hb1)).mono ?_
      rintro r w2 ⟨v2, Lb, rfl, own2, pb, sb, hb2⟩
      obtain ⟨A2, c2, rfl, -, -⟩ := own_shape_z own2 (show Lb.length = lb by rw [pb.length_eq, List.length_range'])
      have hb02 : Below W.heap.size W w2 := below_then hb1 hb2
      have rdA := rd_grown (Own.rd nenc_len own1) hb2
      have rdB := Own.rd nenc_len own2
      have rdK := hrd.grow hb02
      have HLA : Hid (La.length = la) := Lib.hid (by rw [pa.length_eq, List.length_range'])
      have HLB : Hid (Lb.length = lb) := Lib.hid (by rw [pb.length_eq, List.length_range'])
      have HPA := Lib.hid pa; have HPB := Lib.hid pb; have HSA := Lib.hid sa; have HSB := Lib.hid sb
      clear own1 own2 hb1 hb2 pa pb sa sb hrd
      go_wp2_with fail
      go_loopw [10, 11, 12] (fun o ii kk wr => ∃ (i k : Nat) (O : List Nat), i ≤ la ∧ k ≤ lb ∧ ii = .int .i64 i ∧ kk = .int .i64 k ∧ MI (leI lt d l) La Lb i k O ∧ Own nenc 1 wr w2.heap.size 3 o O ∧ Below w2.heap.size w2 wr) (fun _ ii kk _ => (la - (intOf ii).toNat) + (lb - (intOf kk).toNat))
      case atStart => exact ⟨0, 0, [], Nat.zero_le _, Nat.zero_le _, rfl, rfl, mi_nil _ _ _, Own.nil _ _ _, Below.refl _ _⟩
      case round =>
        obtain ⟨i, k, O, hi, hk, rfl, rfl, hmi, howo, hb⟩ := hrel
        have hol : O.length ≤ la + lb := by rw [hmi.1.length_eq, List.length_append, List.length_take, List.length_take]; omega
        have HOL := Lib.hid hol
        have i1 : (0 : Int) ≤ (i : Int) := by omega
        have k1 : (0 : Int) ≤ (k : Int) := by omega
        have ei : IntKind.i64.wrap ((i : Int) + 1) = (i : Int) + 1 := IntWalk.i64_in _ (by omega)
        have ek : IntKind.i64.wrap ((k : Int) + 1) = (k : Int) + 1 := IntWalk.i64_in _ (by omega)
        clear hol
        have rdA2 := rd_grown rdA hb
        have rdB2 := rd_grown rdB hb
        have rdK2 := rdK.grow hb
        by_cases hil : i < la
        · obtain ⟨x, hx⟩ : ∃ x, La[i]? = some x := ⟨_, List.getElem?_eq_getElem (by rw [HLA.out]; exact hil)⟩
          obtain ⟨ba, oa, rfl, hba, fa⟩ := nat_at rdA2 hx
          have d1 : decide ((i : Int) < (la : Int)) = true := by simp; omega
          have d1' : decide (i < la) = true := by simp [hil]
          have i2 : (i : Int) < (la : Int) := by omega
          by_cases hkl : k < lb
          · obtain ⟨y, hy⟩ : ∃ x, Lb[k]? = some x := ⟨_, List.getElem?_eq_getElem (by rw [HLB.out]; exact hkl)⟩
            obtain ⟨bb, ob, rfl, hbb, fb⟩ := nat_at rdB2 hy
            have d2 : decide ((k : Int) < (lb : Int)) = true := by simp; omega
            have k2 : (k : Int) < (lb : Int) := by omega
            have d3 : ((k : Int) == (lb : Int)) = false := by simp; omega
            have hxn : x < n := by
              have := HPA.out.mem_iff.1 (List.mem_of_getElem? hx)
              have h2 := HRG.out
              have : x ∈ List.range' frm s := by rw [← h2]; exact List.mem_append_left _ this
              obtain ⟨z, hz1, hz2⟩ := List.mem_range'.1 this
              have := HTO.out
              omega
            have hyn : y < n := by
              have := HPB.out.mem_iff.1 (List.mem_of_getElem? hy)
              have h2 := HRG.out
              have : y ∈ List.range' frm s := by rw [← h2]; exact List.mem_append_right _ this
              obtain ⟨z, hz1, hz2⟩ := List.mem_range'.1 this
              have := HTO.out
              omega
            obtain ⟨ax, hax⟩ : ∃ a, l[x]? = some a := ⟨_, List.getElem?_eq_getElem (by rw [hn]; exact hxn)⟩
            obtain ⟨ay, hay⟩ : ∃ a, l[y]? = some a := ⟨_, List.getElem?_eq_getElem (by rw [hn]; exact hyn)⟩
            have hkx : (l.map key)[x]? = some (key ax) := by rw [List.getElem?_map, hax]; rfl
            have hky : (l.map key)[y]? = some (key ay) := by rw [List.getElem?_map, hay]; rfl
            obtain ⟨bk, ok, Qx, cx, rfl, hbk, fx, rx⟩ := rdK2.at_ hkx
            obtain ⟨bk', ok', Qy, cy, e', -, fy, ry⟩ := rdK2.at_ hky
            simp only [Option.some.injEq, Addr.mk.injEq, and_true] at e'
            obtain ⟨rfl, rfl⟩ := e'
            rw [hkey] at fx fy
            obtain ⟨r, hr⟩ : ∃ r, r = lt ay ax := ⟨_, rfl⟩
            have hlow := fun (q : Nat) => lower_any Qy Qx cy cx m (key ay) (key ax) (wr.drewN q) (hkey _) (hkey _) hm ry rx
            rw [hlt, ← hr] at hlow
            have HLOW := Lib.hid hlow
            have x1 : (0 : Int) ≤ (x : Int) := by omega
            have x2 : (x : Int) < (n : Int) := by omega
            have y1 : (0 : Int) ≤ (y : Int) := by omega
            have y2 : (y : Int) < (n : Int) := by omega
            have gx : l.getD x d = ax := by rw [List.getD_eq_getElem?_getD, hax]; rfl
            have gy : l.getD y d = ay := by rw [List.getD_eq_getElem?_getD, hay]; rfl
            cases r with
            | false =>
              have hnx : MI (leI lt d l) La Lb (i + 1) k (O ++ [x]) := mi_left hmi hx HSA.out (le_rest (le := leI lt d l) (x := x) (y := y) (fun h1 h2 => leI_tr lt hst d l h1 h2) hy HSB.out (by unfold leI; rw [gx, gy]; exact hr.symm))
              have HNX := Lib.hid hnx
              clear hnx hmi hx hy hax hay hkx hky rx ry hlow hr gx gy rdA2 rdB2 rdK2
              go_wp2_with fail
              go_quiet ((go_at_call 125; exact Calls.quiet_of (HLOW.out _)))
              have howq := howo.below (below_drewN (Below.refl wr.heap.size wr) nq)
              have hbq := below_drewN hb nq
              obtain ⟨wq, hwq⟩ : ∃ wq, wq = wr.drewN nq := ⟨_, rfl⟩
              rw [← hwq] at howq hbq ⊢
              have fa' : wq.cell? ⟨ba, oa + i, none⟩ = some (.int .i64 x) := by rw [hwq]; exact fa
              clear hwq
              go_wp2_with (at_builtin; refine wpList_append_elem rfl _ _ 133 rfl w2.heap.size 3 i0 (.int .i64 0) 1 8 Try.underlying133 hi0 hz0 hz1 hz2 rfl (by decide) nenc nenc_len _ O x rfl (howq.alloc (.cells #[.int .i64 (x : Nat)] 3)) ⟨wq.heap.size, 0, none⟩ 1 rfl (by intro j u hj; match j, hj with | 0, hj => (simp [nenc] at hj; subst hj; simp [Addr.add])) (by have := nenc_one [x]; simpa using this) (by unfold maxLen; have := HOL.out; omega) (by have := HOL.out; omega) (by have := hbq.size; rw [World.size_alloc]; omega) ?_; intro v' w7 own7 hgr7 hbel)
              have hb7 : Below w2.heap.size w2 w7 := (hbq.alloc hbq.size _).trans hbel
              go_wp2
              go_roundw
              case rel => exact ⟨i + 1, k, O ++ [x], by omega, by omega, by go_num, rfl, HNX.out, own7, hb7⟩
              case measure => simp [intOf]; omega
            | true =>
              have hnx : MI (leI lt d l) La Lb i (k + 1) (O ++ [y]) := mi_right hmi hy HSB.out (le_rest (le := leI lt d l) (x := y) (y := x) (fun h1 h2 => leI_tr lt hst d l h1 h2) hx HSA.out (by unfold leI; rw [gx, gy]; exact hst.asym hr.symm))
              have HNX := Lib.hid hnx
              clear hnx hmi hx hy hax hay hkx hky rx ry hlow hr gx gy rdA2 rdB2 rdK2
              go_wp2_with fail
              go_quiet ((go_at_call 125; exact Calls.quiet_of (HLOW.out _)))
              have howq := howo.below (below_drewN (Below.refl wr.heap.size wr) nq)
              have hbq := below_drewN hb nq
              obtain ⟨wq, hwq⟩ : ∃ wq, wq = wr.drewN nq := ⟨_, rfl⟩
              rw [← hwq] at howq hbq ⊢
              have fb' : wq.cell? ⟨bb, ob + k, none⟩ = some (.int .i64 y) := by rw [hwq]; exact fb
              clear hwq
              go_wp2_with (at_builtin; refine wpList_append_elem rfl _ _ 133 rfl w2.heap.size 3 i0 (.int .i64 0) 1 8 Try.underlying133 hi0 hz0 hz1 hz2 rfl (by decide) nenc nenc_len _ O y rfl (howq.alloc (.cells #[.int .i64 (y : Nat)] 3)) ⟨wq.heap.size, 0, none⟩ 1 rfl (by intro j u hj; match j, hj with | 0, hj => (simp [nenc] at hj; subst hj; simp [Addr.add])) (by have := nenc_one [y]; simpa using this) (by unfold maxLen; have := HOL.out; omega) (by have := HOL.out; omega) (by have := hbq.size; rw [World.size_alloc]; omega) ?_; intro v' w7 own7 hgr7 hbel)
              have hb7 : Below w2.heap.size w2 w7 := (hbq.alloc hbq.size _).trans hbel
              go_wp2
              go_roundw
              case rel => exact ⟨i, k + 1, O ++ [y], by omega, by omega, rfl, by go_num, HNX.out, own7, hb7⟩
              case measure => simp [intOf]; omega
          · have d3 : ((k : Int) == (lb : Int)) = true := by simp; omega
            have hnx : MI (leI lt d l) La Lb (i + 1) k (O ++ [x]) := mi_left hmi hx HSA.out (by rw [List.drop_of_length_le (by rw [HLB.out]; omega)]; simp)
            have HNX := Lib.hid hnx
            clear hnx hmi hx rdA2 rdB2 rdK2
            go_wp2_with fail
            go_quiet (fail)
            have howq := howo.below (below_drewN (Below.refl wr.heap.size wr) nq)
            have hbq := below_drewN hb nq
            obtain ⟨wq, hwq⟩ : ∃ wq, wq = wr.drewN nq := ⟨_, rfl⟩
            rw [← hwq] at howq hbq ⊢
            have fa' : wq.cell? ⟨ba, oa + i, none⟩ = some (.int .i64 x) := by rw [hwq]; exact fa
            clear hwq
            go_wp2_with (at_builtin; refine wpList_append_elem rfl _ _ 133 rfl w2.heap.size 3 i0 (.int .i64 0) 1 8 Try.underlying133 hi0 hz0 hz1 hz2 rfl (by decide) nenc nenc_len _ O x rfl (howq.alloc (.cells #[.int .i64 (x : Nat)] 3)) ⟨wq.heap.size, 0, none⟩ 1 rfl (by intro j u hj; match j, hj with | 0, hj => (simp [nenc] at hj; subst hj; simp [Addr.add])) (by have := nenc_one [x]; simpa using this) (by unfold maxLen; have := HOL.out; omega) (by have := HOL.out; omega) (by have := hbq.size; rw [World.size_alloc]; omega) ?_; intro v' w7 own7 hgr7 hbel)
            have hb7 : Below w2.heap.size w2 w7 := (hbq.alloc hbq.size _).trans hbel
            go_wp2
            go_roundw
            case rel => exact ⟨i + 1, k, O ++ [x], by omega, by omega, by go_num, rfl, HNX.out, own7, hb7⟩
            case measure => simp [intOf]; omega
        · have d1 : decide ((i : Int) < (la : Int)) = false := by simp; omega
          have d1' : decide (i < la) = false := by simp [hil]
          by_cases hkl : k < lb
          · obtain ⟨y, hy⟩ : ∃ x, Lb[k]? = some x := ⟨_, List.getElem?_eq_getElem (by rw [HLB.out]; exact hkl)⟩
            obtain ⟨bb, ob, rfl, hbb, fb⟩ := nat_at rdB2 hy
            have d2 : decide ((k : Int) < (lb : Int)) = true := by simp; omega
            have k2 : (k : Int) < (lb : Int) := by omega
            have d3 : ((k : Int) == (lb : Int)) = false := by simp; omega
            have hnx : MI (leI lt d l) La Lb i (k + 1) (O ++ [y]) := mi_right hmi hy HSB.out (by rw [List.drop_of_length_le (by rw [HLA.out]; omega)]; simp)
            have HNX := Lib.hid hnx
            clear hnx hmi hy rdA2 rdB2 rdK2
            go_wp2_with fail
            go_quiet (fail)
            have howq := howo.below (below_drewN (Below.refl wr.heap.size wr) nq)
            have hbq := below_drewN hb nq
            obtain ⟨wq, hwq⟩ : ∃ wq, wq = wr.drewN nq := ⟨_, rfl⟩
            rw [← hwq] at howq hbq ⊢
            have fb' : wq.cell? ⟨bb, ob + k, none⟩ = some (.int .i64 y) := by rw [hwq]; exact fb
            clear hwq
            go_wp2_with (at_builtin; refine wpList_append_elem rfl _ _ 133 rfl w2.heap.size 3 i0 (.int .i64 0) 1 8 Try.underlying133 hi0 hz0 hz1 hz2 rfl (by decide) nenc nenc_len _ O y rfl (howq.alloc (.cells #[.int .i64 (y : Nat)] 3)) ⟨wq.heap.size, 0, none⟩ 1 rfl (by intro j u hj; match j, hj with | 0, hj => (simp [nenc] at hj; subst hj; simp [Addr.add])) (by have := nenc_one [y]; simpa using this) (by unfold maxLen; have := HOL.out; omega) (by have := HOL.out; omega) (by have := hbq.size; rw [World.size_alloc]; omega) ?_; intro v' w7 own7 hgr7 hbel)
            have hb7 : Below w2.heap.size w2 w7 := (hbq.alloc hbq.size _).trans hbel
            go_wp2
            go_roundw
            case rel => exact ⟨i, k + 1, O ++ [y], by omega, by omega, rfl, by go_num, HNX.out, own7, hb7⟩
            case measure => simp [intOf]; omega
          · have d2 : decide ((k : Int) < (lb : Int)) = false := by simp; omega
            have hp : O.Perm (List.range' frm s) := by
              have h1 := hmi.1
              rw [List.take_of_length_le (by rw [HLA.out]; omega), List.take_of_length_le (by rw [HLB.out]; omega)] at h1
              rw [← HRG.out]
              exact h1.trans (HPA.out.append HPB.out)
            have HP := Lib.hid hp; have HSO := Lib.hid hmi.2.1
            have hfin := below_then hb02 hb
            clear hp hmi rdA2 rdB2 rdK2
            go_wp2
            go_ret
            exact ⟨_, O, rfl, howo.mono hb02.size, HP.out, HSO.out, hfin⟩
end
end Go.Proofs.Ytffehibdeogjeaa
