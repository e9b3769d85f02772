/- The contracts of the helpers of chapter 17's statements: records put in one by one. Condition: at most 2^40 records. -/
import Derived.Test.YtbbdepeifdbbdaaStoreAdd
import Derived.Test.YtbbdepeifdbbdaaStoreInv
import Derived.Test.YtbbdepeifdbbdaaKitB
namespace Go.Proofs.Ytbbdepeifdbbdaa
open Go.RowKit

/-- A record that is put in, in memory: key, time, value, side. -/
def penc (p : Pt) : List Value := [.int .i64 p.k, .int .i64 p.t, .int .i64 p.v, .int .i64 p.d]
theorem penc_len (p : Pt) : (penc p).length = 4 := rfl
theorem penc_one (l : List Pt) : ∀ u ∈ l.flatMap penc, u.oneCell' = true := by
  intro u hu
  obtain ⟨x, _, hx⟩ := List.mem_flatMap.1 hu
  simp [penc] at hx
  rcases hx with rfl | rfl | rfl | rfl <;> rfl
theorem pt_cells {w : World} {B : Nat} {A : Option Addr} {l : List Pt} (h : Rd penc 4 w B A l) {k : Nat} {x : Pt} (hx : l[k]? = some x) :
    ∃ b off, A = some ⟨b, off, none⟩ ∧ b < B ∧ w.cell? ⟨b, off + k * 4, none⟩ = some (.int .i64 x.k) ∧ w.cell? ⟨b, off + k * 4 + 1, none⟩ = some (.int .i64 x.t) ∧ w.cell? ⟨b, off + k * 4 + 2, none⟩ = some (.int .i64 x.v) ∧ w.cell? ⟨b, off + k * 4 + 3, none⟩ = some (.int .i64 x.d) := by
  obtain ⟨b, off, e, hb, hc⟩ := h.at_ hx
  exact ⟨b, off, e, hb, by simpa using hc 0 _ rfl, hc 1 _ rfl, hc 2 _ rfl, hc 3 _ rfl⟩
/-- All records put in, one by one; none: one was not. -/
noncomputable def allE (wk ws we : Int) : List En → List Pt → Option (List En)
  | a, [] => some a
  | a, p :: P => if (addE a wk ws we p.k p.t p.v p.d).2 = 0 then allE wk ws we (addE a wk ws we p.k p.t p.v p.d).1 P else none
theorem allE_append (wk ws we : Int) : ∀ (P Q : List Pt) (a : List En), allE wk ws we a (P ++ Q) = (allE wk ws we a P).bind fun b => allE wk ws we b Q
  | [], Q, a => rfl
  | p :: P, Q, a => by
    simp only [List.cons_append, allE]
    split
    · exact allE_append wk ws we P Q _
    · rfl
theorem allE_snoc {wk ws we : Int} {P : List Pt} {a : List En} {k : Nat} {p : Pt} {b : List En} (hp : P[k]? = some p) (h : allE wk ws we a (P.take k) = some b) :
    allE wk ws we a (P.take (k + 1)) = if (addE b wk ws we p.k p.t p.v p.d).2 = 0 then some (addE b wk ws we p.k p.t p.v p.d).1 else none := by
  rw [List.take_add_one, hp, Option.toList, allE_append, h]
  simp only [Option.bind_some, allE]
theorem allE_none {wk ws we : Int} {P : List Pt} {a : List En} {k : Nat} (h : allE wk ws we a (P.take k) = none) : allE wk ws we a P = none := by
  have e : P = P.take k ++ P.drop k := (List.take_append_drop k P).symm
  rw [e, allE_append, h]
  rfl
theorem addE_len (a : List En) (wk ws we rk rt rv side : Int) : (addE a wk ws we rk rt rv side).1.length ≤ 4000 := by
  unfold addE
  by_cases h1 : enchk a ≠ 0
  · rw [if_pos h1]; simp
  · rw [if_neg h1]
    by_cases h2 : ¬ wok wk ws we
    · rw [if_pos h2]; simp
    · rw [if_neg h2]
      by_cases h3 : side < 0 ∨ 1 < side
      · rw [if_pos h3]; simp
      · rw [if_neg h3]
        by_cases h4 : rt < -1099511627776 ∨ 1099511627776 < rt
        · rw [if_pos h4]; simp
        · rw [if_neg h4]
          by_cases h5 : (givE a wk ws we rk rt rv side).2 = true
          · rw [if_pos h5]
            unfold givE at h5 ⊢
            simp only [Bool.and_eq_true, decide_eq_true_eq] at h5
            simp only
            have key : ∀ (l acc : List En), (l.foldl insE acc).length = acc.length + l.length := by
              intro l
              induction l with
              | nil => intro acc; simp
              | cons x l ih => intro acc; simp only [List.foldl_cons]; rw [ih, (insE_perm acc x).length_eq]; simp; omega
            have := key (rawE a wk ws we rk rt rv side).1 []
            unfold sortE
            rw [this]
            simp
            omega
          · rw [if_neg h5]; simp
def AllP (wk ws we : Int) (l : List Pt) (w : World) (r : Ending) (w' : World) : Prop :=
  ∃ v, r = .returned (.tuple #[v, .bool (allE wk ws we [] l).isSome]) ∧ Own enenc 11 w' w.heap.size 43 v ((allE wk ws we [] l).getD []) ∧ Below w.heap.size w w'
set_option maxHeartbeats 16000000 in
set_option maxRecDepth 100000 in
theorem all_any (A : Option Addr) (c n : Nat) (l : List Pt) (wk ws we : Int) (hwe : (Lit.int .i64 we).wf = true) (w : World) (hln : l.length = n) (hn : n ≤ 1099511627776) (hr : Rd penc 4 w w.heap.size A l) :
    Calls Try.prog 47 #[.agg #[.int .u8 wk, .int .i64 ws, .int .i64 we], .slice A n c] w (AllP wk ws we l w) := by
  have HLN := Lib.hid hln
  obtain ⟨R, hR⟩ : ∃ R, R = allE wk ws we [] l := ⟨_, rfl⟩
  unfold AllP
  rw [← hR]
  have HR := Lib.hid hR
  clear hln hR
  have hL : Loc w [] := trivial
  go_enter Try.func47, Try.ntmps47
  have hl0 : Loc (w.alloc (.cells #[.int .u8 wk, .int .i64 ws, .int .i64 we] 23)) [(w.heap.size, [.int .u8 wk, .int .i64 ws, .int .i64 we])] := hL.new [.int .u8 wk, .int .i64 ws, .int .i64 we] 23
  go_wp2_with fail
  go_loopw [6, 7] (fun ov iv wr => ∃ (k : Nat) (a : List En), iv = .int .i64 k ∧ k ≤ n ∧ Own enenc 11 wr w.heap.size 43 ov a ∧ a.length ≤ 4000 ∧ allE wk ws we [] (l.take k) = some a ∧ Loc wr [(w.heap.size, [.int .u8 wk, .int .i64 ws, .int .i64 we])] ∧ Below w.heap.size w wr) (fun _ iv _ => n - (intOf iv).toNat)
  case atStart => exact ⟨0, [], rfl, Nat.zero_le _, Own.nil _ _ _, Nat.zero_le _, rfl, hl0, below_new (Below.refl _ _) _⟩
  case round =>
    obtain ⟨k, a, rfl, hk, ho, hla, hall, hl, hb⟩ := hrel
    have HALL := Lib.hid hall
    clear hall hl0
    have hF := hl
    (repeat unfold Loc at hF)
    obtain ⟨m, hm⟩ : ∃ m, a.length = m := ⟨_, rfl⟩
    rw [hm] at hla
    obtain ⟨Ar, cr, rfl, -⟩ := own_shape_n ho hm
    have HM := Lib.hid hm
    have hz : Ar = none → cr = 0 := by
      rcases ho.2 with ⟨h', h0⟩ | ⟨g, cap, cur, h', _⟩
      · intro _; injection h' with _ _ h3
      · intro hA; injection h' with h1 _ _; rw [hA] at h1; cases h1
    have HZ := Lib.hid hz
    clear hm hz
    by_cases hlt : k < n
    · obtain ⟨p, hp⟩ : ∃ p, l[k]? = some p := ⟨_, List.getElem?_eq_getElem (by rw [HLN.out]; exact hlt)⟩
      have hsn := allE_snoc hp HALL.out
      have hel := addE_len a wk ws we p.k p.t p.v p.d
      obtain ⟨b, off, rfl, hbb, f0, f1, f2, f3⟩ := pt_cells (rd_grown hr hb) hp
      obtain ⟨q1, q2, q3, q4⟩ := p
      simp only at f0 f1 f2 f3 hsn hel
      have d1 : decide ((k : Int) < (n : Int)) = true := by simp; omega
      have d1' : decide (k < n) = true := by simp [hlt]
      have k1 : (0 : Int) ≤ (k : Int) := by omega
      have k2 : (k : Int) < (n : Int) := by omega
      have e1 : IntKind.i64.wrap ((k : Int) + 1) = (k : Int) + 1 := IntWalk.i64_in _ (by omega)
      have hcall := fun W (h : Rd enenc 11 W W.heap.size Ar a) => add_any Ar cr m a wk ws we q1 q2 q3 q4 hwe W HM.out HZ.out (by omega) h
      unfold AddP at hcall
      obtain ⟨E, hE⟩ : ∃ E, E = (addE a wk ws we q1 q2 q3 q4).2 := ⟨_, rfl⟩
      obtain ⟨a2, ha2⟩ : ∃ a2, a2 = (addE a wk ws we q1 q2 q3 q4).1 := ⟨_, rfl⟩
      rw [← hE, ← ha2] at hcall hsn
      rw [← ha2] at hel
      have HSN := Lib.hid hsn; have HEL := Lib.hid hel; have HCALL := Lib.hid hcall
      clear hsn hel hcall hE ha2 hp hlt
      go_wp2_with fail
      obtain ⟨lE, hE, hRR⟩ := Env.abs (w0 := wr) (Below.refl _ _) hl
      (repeat unfold Loc at hRR)
      have hRg : ∀ X, Env wr lE X → X.cell? ⟨b, off + k * 4, none⟩ = some (.int .i64 q1) ∧ X.cell? ⟨b, off + k * 4 + 1, none⟩ = some (.int .i64 q2) ∧ X.cell? ⟨b, off + k * 4 + 2, none⟩ = some (.int .i64 q3) ∧ X.cell? ⟨b, off + k * 4 + 3, none⟩ = some (.int .i64 q4) := fun X hX => ⟨(hX.1.cell (p := ⟨b, off + k * 4, none⟩) hbb).trans f0, (hX.1.cell (p := ⟨b, off + k * 4 + 1, none⟩) hbb).trans f1, (hX.1.cell (p := ⟨b, off + k * 4 + 2, none⟩) hbb).trans f2, (hX.1.cell (p := ⟨b, off + k * 4 + 3, none⟩) hbb).trans f3⟩
      clear hF f0 f1 f2 f3
      refine wp_region_held_drew (S := Env wr lE) (by kernel_rfl) (by (first | assumption | exact Env.step (by assumption) (by assumption) | exact Env.old (by assumption) _ | exact Env.drew hE | exact hE | exact Env.drew (by assumption) | exact Env.drew (Env.old (by assumption) _) | ((repeat first | refine Env.far0 ?_ (by assumption) _ | refine Env.far1 ?_ (by assumption) _ | refine Env.farA ?_ (by assumption) _); assumption))) (fun hHeld => ?_)
      refine hTake 0 (by kernel_rfl) (by kernel_rfl) (by kernel_rfl) (by decide) (by assumption) ?_; (intro oi hoi; simp only [List.getElem?_toArray, List.getElem?_cons_zero] at hoi; obtain rfl := Option.some.inj hoi; clear hoi); refine ⟨rfl, ?_⟩; apply Exists.intro; refine ⟨?_, fun _ _ _ h => h, ?_⟩; (intro w hSw; (try dsimp only at hSw); go_simp; (try with_reducible rfl)); (try simp only [Act.put, List.setIfInBounds_toArray, List.set_cons_zero, List.set_cons_succ]); refine hTake 1 (by kernel_rfl) (by kernel_rfl) (by kernel_rfl) (by decide) (by assumption) ?_; (intro oi hoi; simp only [List.getElem?_toArray, List.getElem?_cons_succ, List.getElem?_cons_zero] at hoi; obtain rfl := Option.some.inj hoi; clear hoi); refine ⟨rfl, ?_⟩; apply Exists.intro; refine ⟨?_, fun _ _ _ h => h, ?_⟩; (intro w hSw; (try dsimp only at hSw); go_simp; (try with_reducible rfl)); (try simp only [Act.put, List.setIfInBounds_toArray, List.set_cons_zero, List.set_cons_succ]); refine hTake 2 (by kernel_rfl) (by kernel_rfl) (by kernel_rfl) (by decide) (by assumption) ?_; (intro oi hoi; simp only [List.getElem?_toArray, List.getElem?_cons_succ, List.getElem?_cons_zero] at hoi; obtain rfl := Option.some.inj hoi; clear hoi); refine ⟨rfl, ?_⟩; apply Exists.intro; refine ⟨?_, fun _ _ _ h => h, ?_⟩; (intro w hSw; (try dsimp only at hSw); go_simp; (try with_reducible rfl)); (try simp only [Act.put, List.setIfInBounds_toArray, List.set_cons_zero, List.set_cons_succ]); refine hTake 3 (by kernel_rfl) (by kernel_rfl) (by kernel_rfl) (by decide) (by assumption) ?_; (intro oi hoi; simp only [List.getElem?_toArray, List.getElem?_cons_succ, List.getElem?_cons_zero] at hoi; obtain rfl := Option.some.inj hoi; clear hoi); refine ⟨rfl, ?_⟩; apply Exists.intro; refine ⟨?_, fun _ _ _ h => h, ?_⟩; (intro w hSw; (try dsimp only at hSw); go_simp; (try with_reducible rfl)); (try simp only [Act.put, List.setIfInBounds_toArray, List.set_cons_zero, List.set_cons_succ]); refine hTake 4 (by kernel_rfl) (by kernel_rfl) (by kernel_rfl) (by decide) (by assumption) ?_; (intro oi hoi; simp only [List.getElem?_toArray, List.getElem?_cons_succ, List.getElem?_cons_zero] at hoi; obtain rfl := Option.some.inj hoi; clear hoi); refine ⟨rfl, ?_⟩; apply Exists.intro; refine ⟨?_, fun _ _ _ h => h, ?_⟩; (intro w hSw; (try dsimp only at hSw); go_simp; (try with_reducible rfl)); (try simp only [Act.put, List.setIfInBounds_toArray, List.set_cons_zero, List.set_cons_succ]); refine hTake 5 (by kernel_rfl) (by kernel_rfl) (by kernel_rfl) (by decide) (by assumption) ?_; (intro oi hoi; simp only [List.getElem?_toArray, List.getElem?_cons_succ, List.getElem?_cons_zero] at hoi; obtain rfl := Option.some.inj hoi; clear hoi); refine ⟨rfl, ?_⟩; apply Exists.intro; refine ⟨?_, fun _ _ _ h => h, ?_⟩; (intro w hSw; (try dsimp only at hSw); go_simp; (try with_reducible rfl)); (try simp only [Act.put, List.setIfInBounds_toArray, List.set_cons_zero, List.set_cons_succ]); refine hTake 6 (by kernel_rfl) (by kernel_rfl) (by kernel_rfl) (by decide) (by assumption) ?_; (intro oi hoi; simp only [List.getElem?_toArray, List.getElem?_cons_succ, List.getElem?_cons_zero] at hoi; obtain rfl := Option.some.inj hoi; clear hoi); refine ⟨rfl, ?_⟩; apply Exists.intro; refine ⟨?_, fun _ _ _ h => h, ?_⟩; (intro w hSw; (try dsimp only at hSw); go_simp; (try with_reducible rfl)); (try simp only [Act.put, List.setIfInBounds_toArray, List.set_cons_zero, List.set_cons_succ]); refine hTake 7 (by kernel_rfl) (by kernel_rfl) (by kernel_rfl) (by decide) (by assumption) ?_; (intro oi hoi; simp only [List.getElem?_toArray, List.getElem?_cons_succ, List.getElem?_cons_zero] at hoi; obtain rfl := Option.some.inj hoi; clear hoi); refine ⟨rfl, ?_⟩; apply Exists.intro; refine ⟨?_, fun _ _ _ h => h, ?_⟩; (intro w hSw; (try dsimp only at hSw); go_simp; (try with_reducible rfl)); (try simp only [Act.put, List.setIfInBounds_toArray, List.set_cons_zero, List.set_cons_succ]); refine hTake 8 (by kernel_rfl) (by kernel_rfl) (by kernel_rfl) (by decide) (by assumption) ?_; (intro oi hoi; simp only [List.getElem?_toArray, List.getElem?_cons_succ, List.getElem?_cons_zero] at hoi; obtain rfl := Option.some.inj hoi; clear hoi); refine ⟨rfl, ?_⟩; apply Exists.intro; refine ⟨?_, fun _ _ _ h => h, ?_⟩; (intro w hSw; (try dsimp only at hSw); go_simp; (try with_reducible rfl)); (try simp only [Act.put, List.setIfInBounds_toArray, List.set_cons_zero, List.set_cons_succ]); refine hTake 9 (by kernel_rfl) (by kernel_rfl) (by kernel_rfl) (by decide) (by assumption) ?_; (intro oi hoi; simp only [List.getElem?_toArray, List.getElem?_cons_succ, List.getElem?_cons_zero] at hoi; obtain rfl := Option.some.inj hoi; clear hoi); refine ⟨rfl, ?_⟩; apply Exists.intro; refine ⟨?_, fun _ _ _ h => h, ?_⟩; (intro w hSw; (try dsimp only at hSw); go_simp; (try with_reducible rfl)); (try simp only [Act.put, List.setIfInBounds_toArray, List.set_cons_zero, List.set_cons_succ]); refine hTake 10 (by kernel_rfl) (by kernel_rfl) (by kernel_rfl) (by decide) (by assumption) ?_; (intro oi hoi; simp only [List.getElem?_toArray, List.getElem?_cons_succ, List.getElem?_cons_zero] at hoi; obtain rfl := Option.some.inj hoi; clear hoi); refine ⟨rfl, ?_⟩; apply Exists.intro; refine ⟨?_, fun _ _ _ h => h, ?_⟩; (intro w hSw; (try dsimp only at hSw); go_simp; (try with_reducible rfl)); (try simp only [Act.put, List.setIfInBounds_toArray, List.set_cons_zero, List.set_cons_succ]); refine hTake 11 (by kernel_rfl) (by kernel_rfl) (by kernel_rfl) (by decide) (by assumption) ?_; (intro oi hoi; simp only [List.getElem?_toArray, List.getElem?_cons_succ, List.getElem?_cons_zero] at hoi; obtain rfl := Option.some.inj hoi; clear hoi); refine ⟨rfl, ?_⟩; apply Exists.intro; refine ⟨?_, fun _ _ _ h => h, ?_⟩; (intro w hSw; (try dsimp only at hSw); go_simp; (try with_reducible rfl)); (try simp only [Act.put, List.setIfInBounds_toArray, List.set_cons_zero, List.set_cons_succ])
      refine hOnly 12 (by kernel_rfl) (by decide) ?_; (intro oi hoi; simp only [List.getElem?_toArray, List.getElem?_cons_succ, List.getElem?_cons_zero] at hoi; obtain rfl := Option.some.inj hoi; clear hoi); intro K hK; go_simp
      go_at_call 19
      refine (HCALL.out wr.drew (Rd.drew (Own.rd enenc_len ho))).mono ?_
      rintro r w4 ⟨v4, rfl, own4, hb4⟩
      have hEhb4 := Env.step hb4 (by assumption); (try (have hqhb4 := (by with_reducible first | exact Loc.below hb4 (Loc.new (Loc.nil _) _ _) | exact Loc.below hb4 (Loc.drew (Loc.new (Loc.nil _) _ _)) | exact Loc.below hb4 (by assumption : Loc _ [_])); (repeat rw [World.size_drew] at hqhb4); (repeat rw [World.size_alloc] at hqhb4); have hrhb4 := hqhb4; (repeat unfold Loc at hrhb4)))
      (refine hK.out _ _ (by (first | assumption | exact Env.step (by assumption) (by assumption) | exact Env.old (by assumption) _ | exact Env.drew hE | exact hE | exact Env.drew (by assumption) | exact Env.drew (Env.old (by assumption) _) | ((repeat first | refine Env.far0 ?_ (by assumption) _ | refine Env.far1 ?_ (by assumption) _ | refine Env.farA ?_ (by assumption) _); assumption))) (fun hHeld => ?_); clear hK K; (try simp only [Act.put, List.setIfInBounds_toArray, List.set_cons_zero, List.set_cons_succ]))
      refine hTake 13 (by kernel_rfl) (by kernel_rfl) (by kernel_rfl) (by decide) (by assumption) ?_; (intro oi hoi; simp only [List.getElem?_toArray, List.getElem?_cons_succ, List.getElem?_cons_zero] at hoi; obtain rfl := Option.some.inj hoi; clear hoi); refine ⟨rfl, ?_⟩; apply Exists.intro; refine ⟨?_, fun _ _ _ h => h, ?_⟩; (intro w hSw; (try dsimp only at hSw); go_simp; (try with_reducible rfl)); (try simp only [Act.put, List.setIfInBounds_toArray, List.set_cons_zero, List.set_cons_succ]); refine hTake 14 (by kernel_rfl) (by kernel_rfl) (by kernel_rfl) (by decide) (by assumption) ?_; (intro oi hoi; simp only [List.getElem?_toArray, List.getElem?_cons_succ, List.getElem?_cons_zero] at hoi; obtain rfl := Option.some.inj hoi; clear hoi); refine ⟨rfl, ?_⟩; apply Exists.intro; refine ⟨?_, fun _ _ _ h => h, ?_⟩; (intro w hSw; (try dsimp only at hSw); go_simp; (try with_reducible rfl)); (try simp only [Act.put, List.setIfInBounds_toArray, List.set_cons_zero, List.set_cons_succ]); refine hTake 15 (by kernel_rfl) (by kernel_rfl) (by kernel_rfl) (by decide) (by assumption) ?_; (intro oi hoi; simp only [List.getElem?_toArray, List.getElem?_cons_succ, List.getElem?_cons_zero] at hoi; obtain rfl := Option.some.inj hoi; clear hoi); refine ⟨rfl, ?_⟩; apply Exists.intro; refine ⟨?_, fun _ _ _ h => h, ?_⟩; (intro w hSw; (try dsimp only at hSw); go_simp; (try with_reducible rfl)); (try simp only [Act.put, List.setIfInBounds_toArray, List.set_cons_zero, List.set_cons_succ]); refine hTake 16 (by kernel_rfl) (by kernel_rfl) (by kernel_rfl) (by decide) (by assumption) ?_; (intro oi hoi; simp only [List.getElem?_toArray, List.getElem?_cons_succ, List.getElem?_cons_zero] at hoi; obtain rfl := Option.some.inj hoi; clear hoi); refine ⟨rfl, ?_⟩; apply Exists.intro; refine ⟨?_, fun _ _ _ h => h, ?_⟩; (intro w hSw; (try dsimp only at hSw); go_simp; (try with_reducible rfl)); (try simp only [Act.put, List.setIfInBounds_toArray, List.set_cons_zero, List.set_cons_succ]); refine hTake 17 (by kernel_rfl) (by kernel_rfl) (by kernel_rfl) (by decide) (by assumption) ?_; (intro oi hoi; simp only [List.getElem?_toArray, List.getElem?_cons_succ, List.getElem?_cons_zero] at hoi; obtain rfl := Option.some.inj hoi; clear hoi); refine ⟨rfl, ?_⟩; apply Exists.intro; refine ⟨?_, fun _ _ _ h => h, ?_⟩; (intro w hSw; (try dsimp only at hSw); go_simp; (try with_reducible rfl)); (try simp only [Act.put, List.setIfInBounds_toArray, List.set_cons_zero, List.set_cons_succ])
      refine wpAnyH_done (by kernel_rfl) ?_ _
      have hl4 := hl.drew.below hb4
      have hb5 : Below w.heap.size w w4 := below_then (below_drew hb) hb4
      have own5 := own4.mono hb.size
      clear hRR hRg hE
      by_cases h0 : E = 0
      · subst h0
        have hs2 := HSN.out
        rw [if_pos rfl] at hs2
        have HS2 := Lib.hid hs2
        clear hs2
        have hel2 := HEL.out
        go_wp2
        go_roundw
        case rel => exact ⟨k + 1, a2, by go_num, by omega, own5, hel2, HS2.out, hl4, hb5⟩
        case measure => simp [intOf]; omega
      · have d0 : (E != 0) = true := by simp [h0]
        have hs2 := HSN.out
        rw [if_neg h0] at hs2
        have hR2 : R = none := by rw [HR.out]; exact allE_none hs2
        subst hR2
        clear hs2 h0
        go_wp2
        go_ret2
        exact ⟨.slice none 0 0, rfl, Own.nil _ _ _, hb5⟩
    · obtain rfl : k = n := by omega
      have d1 : decide ((k : Int) < (k : Int)) = false := by simp
      have d1' : decide (k < k) = false := by simp
      have hR2 : R = some a := by rw [HR.out, ← HALL.out, List.take_of_length_le (by rw [HLN.out]; exact Nat.le_refl _)]
      subst hR2
      clear hlt
      go_wp2
      go_ret2
      exact ⟨_, rfl, ho, hb⟩
set_option maxHeartbeats 1000000 in
theorem of17_any (t v : Int) (w : World) : Calls Try.prog 78 #[.int .i64 t, .int .i64 v] w fun e w' => e = .returned (.agg #[.int .i64 1, .int .i64 t, .int .i64 v, .int .i64 0]) ∧ Below w.heap.size w w' := by
  go_enter Try.func78, Try.ntmps78
  go_wp2
  refine bodyPost_ret (v := _) (by rw [results_cell1 Try.results78]; go_simp; rfl) rfl ⟨?_, ?_⟩
  · rfl
  · exact (by repeat (first | exact Below.refl _ _ | assumption | (with_reducible exact Env.below (by assumption)) | (with_reducible refine below_new ?_ _) | (with_reducible refine below_drew ?_) | (with_reducible refine below_drewN ?_ _) | (with_reducible refine below_put ?_ ?_ _; rotate_left 1; (dsimp only; omega)) | (refine below_then ?_ (by assumption))))
end Go.Proofs.Ytbbdepeifdbbdaa
