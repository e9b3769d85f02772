/- Lemmas and contracts that the later texts use: TimersCheck, TimersRef, TimersRows, TimersSwap, TimersPushed, joined into one text. The conditions of each stand at its head. -/
import Derived.Test.YtffehibdeogjeaaKitA
import Derived.Test.YtffehibdeogjeaaKitC
import Derived.BigRegion
import Derived.Laws.MakeOwn
import Derived.Deep.RegionLaw
/- The contract of the check of heaps of timers (chapter 18). Condition: a list of at most 2^40 timers. -/
namespace Go.Proofs.Ytffehibdeogjeaa
open Go.RowKit

/-- A heap of timers that are right. -/
def thv (l : List Tm) : Prop := (∀ t ∈ l, tok t) ∧ IsHeap tlt t0 l
open Classical in
noncomputable def tck (l : List Tm) : Int := if 4000 < l.length then 4 else if thv l then 0 else 8
theorem tm_cells {w : World} {B : Nat} {A : Option Addr} {l : List Tm} (h : Rd tenc 3 w B A l) {k : Nat} {x : Tm} (hx : l[k]? = some x) :
    ∃ b off, A = some ⟨b, off, none⟩ ∧ b < B ∧ w.cell? ⟨b, off + k * 3, none⟩ = some (.int .i64 x.s) ∧ w.cell? ⟨b, off + k * 3 + 1, none⟩ = some (.int .i64 x.e) ∧ w.cell? ⟨b, off + k * 3 + 2, none⟩ = some (.int .i64 x.k) := by
  obtain ⟨b, off, e, hb, hc⟩ := h.at_ hx
  exact ⟨b, off, e, hb, by simpa using hc 0 _ rfl, hc 1 _ rfl, hc 2 _ rfl⟩
/-- As far as the first k are looked at. -/
def thk (l : List Tm) (k : Nat) : Prop := (∀ i, i < k → tok (l.getD i t0)) ∧ (∀ i, 0 < i → i < k → tlt (l.getD i t0) (l.getD ((i - 1) / 2) t0) = false)
theorem thk_all (l : List Tm) : thk l l.length ↔ thv l := by
  unfold thk thv IsHeap
  constructor
  · rintro ⟨h1, h2⟩
    refine ⟨fun t ht => ?_, h2⟩
    obtain ⟨i, hi, rfl⟩ := List.getElem_of_mem ht
    have := h1 i hi
    simpa [List.getD_eq_getElem?_getD, List.getElem?_eq_getElem hi] using this
  · rintro ⟨h1, h2⟩
    refine ⟨fun i hi => ?_, h2⟩
    have : l.getD i t0 = l[i] := by simp [List.getD_eq_getElem?_getD, List.getElem?_eq_getElem hi]
    rw [this]
    exact h1 _ (List.getElem_mem hi)
theorem thk_succ {l : List Tm} {k : Nat} (h : thk l k) (h1 : tok (l.getD k t0)) (h2 : 0 < k → tlt (l.getD k t0) (l.getD ((k - 1) / 2) t0) = false) : thk l (k + 1) :=
  ⟨fun i hi => (by by_cases e : i = k; exact e ▸ h1; exact h.1 i (by omega)), fun i h0 hi => (by by_cases e : i = k; exact e ▸ h2 (e ▸ h0); exact h.2 i h0 (by omega))⟩
theorem par_facts {k : Nat} (h0 : ¬ k = 0) (h : k ≤ 1099511627776) : IntKind.i64.wrap ((k : Int) - 1) = (k : Int) - 1 ∧ IntKind.i64.wrap (((k - 1) / 2 : Nat) : Int) = (((k - 1) / 2 : Nat) : Int) ∧ ((k : Int) - 1).tdiv 2 = (((k - 1) / 2 : Nat) : Int) := by
  have e : ((k : Int) - 1).tdiv 2 = (((k - 1) / 2 : Nat) : Int) := by
    rw [Int.tdiv_eq_ediv_of_nonneg (by omega)]; omega
  exact ⟨IntWalk.i64_in _ (by omega), IntWalk.i64_in _ (by omega), e⟩

set_option maxHeartbeats 8000000 in
set_option maxRecDepth 100000 in
theorem tcheck_any (A : Option Addr) (c : Nat) (l : List Tm) (w : World) (hn : l.length ≤ 1099511627776) (hr : Rd tenc 3 w w.heap.size A l) :
    Calls Try.prog 24 #[.slice A l.length c] w fun e w' => e = .returned (.int .i64 (tck l)) ∧ Below w.heap.size w w' := by
  obtain ⟨n, hn'⟩ : ∃ n, n = l.length := ⟨_, rfl⟩
  rw [← hn'] at hn ⊢
  have HN := Lib.hid hn'
  by_cases hlen : 4000 < n
  · have e1 : tck l = 4 := by unfold tck; rw [if_pos (by omega)]
    have E1 := Lib.hid e1
    clear e1 hn'
    go_enter Try.func24, Try.ntmps24
    go_wp2
    go_ret
    exact ⟨ret_i64 E1.out.symm, Below.refl _ _⟩
  · clear hn'
    go_enter Try.func24, Try.ntmps24
    go_wp2
    go_loopw [10] (fun i wr => ∃ k : Nat, k ≤ n ∧ i = .int .i64 k ∧ thk l k ∧ Below w.heap.size w wr) (fun i _ => n - (intOf i).toNat)
    case atStart => exact ⟨0, Nat.zero_le _, rfl, ⟨fun i hi => by omega, fun i _ hi => by omega⟩, Below.refl _ _⟩
    case round =>
      obtain ⟨k, hk, rfl, hth, hb⟩ := hrel
      have HT := Lib.hid hth
      clear hth
      by_cases hlt : k < n
      · have hkx : k < l.length := by rw [← HN.out]; exact hlt
        have hx := List.getElem?_eq_getElem hkx
        obtain ⟨x, hxe⟩ : ∃ x, x = l[k] := ⟨_, rfl⟩
        rw [← hxe] at hx
        have gx := getD_some (d := t0) hx
        obtain ⟨b, off, rfl, hbB, f1, f2, f3⟩ := tm_cells hr hx
        have d1 := (hb.cell (p := ⟨b, off + k * 3, none⟩) hbB).trans f1
        have d2 := (hb.cell (p := ⟨b, off + k * 3 + 1, none⟩) hbB).trans f2
        have d3 := (hb.cell (p := ⟨b, off + k * 3 + 2, none⟩) hbB).trans f3
        have GX := Lib.hid gx
        clear hx hxe gx f1 f2 f3 hkx
        have hL := (Loc.nil wr).new [.int .i64 x.s, .int .i64 x.e, .int .i64 x.k] 34
        obtain ⟨lE, hE, hR⟩ := Env.abs (w0 := w) (below_new hb _) hL
        have hR' := Lib.hid hR
        (repeat unfold Loc at hR)
        by_cases hok : tok x
        · have b1 : decide (tok x) = true := by simp [hok]
          have HOK := Lib.hid hok
          clear hok
          by_cases h0 : k = 0
          · have b0 : decide ((0 : Int) < (k : Int)) = false := by simp [h0]
            have b2 : decide (0 < k) = false := by simp [h0]
            have hnx : thk l (k + 1) := thk_succ HT.out (by rw [GX.out]; exact HOK.out) (fun h => by omega)
            have HNX := Lib.hid hnx
            clear hnx h0
            go_wp2
            refine wp_region_held_drew (S := Env w lE) (by kernel_rfl) (by (first | assumption | exact Env.step (by assumption) (by assumption) | exact Env.old (by assumption) _ | exact Env.drew hE | exact hE | exact Env.drew (by assumption) | exact Env.drew (Env.old (by assumption) _) | ((repeat first | refine Env.far0 ?_ (by assumption) _ | refine Env.far1 ?_ (by assumption) _ | refine Env.farA ?_ (by assumption) _); assumption))) (fun hHeld => ?_)
            refine hTake 0 (by kernel_rfl) (by kernel_rfl) (by kernel_rfl) (by decide) (by assumption) ?_; (intro oi hoi; simp only [List.getElem?_toArray, List.getElem?_cons_zero] at hoi; obtain rfl := Option.some.inj hoi; clear hoi); refine ⟨rfl, ?_⟩; apply Exists.intro; refine ⟨?_, fun _ _ _ h => h, ?_⟩; (intro w hSw; (try dsimp only at hSw); go_simp; (try with_reducible rfl)); (try simp only [Act.put, List.setIfInBounds_toArray, List.set_cons_zero, List.set_cons_succ])
            refine hOnly 1 (by kernel_rfl) (by decide) ?_; (intro oi hoi; simp only [List.getElem?_toArray, List.getElem?_cons_succ, List.getElem?_cons_zero] at hoi; obtain rfl := Option.some.inj hoi; clear hoi); intro K hK; go_simp
            go_at_call 74
            refine (tright_any x _).mono ?_
            rintro e w1 ⟨rfl, hb1⟩
            have hEhb1 := Env.step hb1 (by assumption); (try (have hqhb1 := (by with_reducible first | exact Loc.below hb1 (Loc.new (Loc.nil _) _ _) | exact Loc.below hb1 (Loc.drew (Loc.new (Loc.nil _) _ _)) | exact Loc.below hb1 (by assumption : Loc _ [_])); (repeat rw [World.size_drew] at hqhb1); (repeat rw [World.size_alloc] at hqhb1); have hrhb1 := hqhb1; (repeat unfold Loc at hrhb1)))
            (refine hK.out _ _ (by (first | assumption | exact Env.step (by assumption) (by assumption) | exact Env.old (by assumption) _ | exact Env.drew hE | exact hE | exact Env.drew (by assumption) | exact Env.drew (Env.old (by assumption) _) | ((repeat first | refine Env.far0 ?_ (by assumption) _ | refine Env.far1 ?_ (by assumption) _ | refine Env.farA ?_ (by assumption) _); assumption))) (fun hHeld => ?_); clear hK K; (try simp only [Act.put, List.setIfInBounds_toArray, List.set_cons_zero, List.set_cons_succ]))
            refine hTake 2 (by kernel_rfl) (by kernel_rfl) (by kernel_rfl) (by decide) (by assumption) ?_; (intro oi hoi; simp only [List.getElem?_toArray, List.getElem?_cons_succ, List.getElem?_cons_zero] at hoi; obtain rfl := Option.some.inj hoi; clear hoi); refine ⟨rfl, ?_⟩; apply Exists.intro; refine ⟨?_, fun _ _ _ h => h, ?_⟩; (intro w hSw; (try dsimp only at hSw); go_simp; (try with_reducible rfl)); (try simp only [Act.put, List.setIfInBounds_toArray, List.set_cons_zero, List.set_cons_succ]); refine hTake 3 (by kernel_rfl) (by kernel_rfl) (by kernel_rfl) (by decide) (by assumption) ?_; (intro oi hoi; simp only [List.getElem?_toArray, List.getElem?_cons_succ, List.getElem?_cons_zero] at hoi; obtain rfl := Option.some.inj hoi; clear hoi); refine ⟨rfl, ?_⟩; apply Exists.intro; refine ⟨?_, fun _ _ _ h => h, ?_⟩; (intro w hSw; (try dsimp only at hSw); go_simp; (try with_reducible rfl)); (try simp only [Act.put, List.setIfInBounds_toArray, List.set_cons_zero, List.set_cons_succ]); refine hTake 4 (by kernel_rfl) (by kernel_rfl) (by kernel_rfl) (by decide) (by assumption) ?_; (intro oi hoi; simp only [List.getElem?_toArray, List.getElem?_cons_succ, List.getElem?_cons_zero] at hoi; obtain rfl := Option.some.inj hoi; clear hoi); refine ⟨rfl, ?_⟩; apply Exists.intro; refine ⟨?_, fun _ _ _ h => h, ?_⟩; (intro w hSw; (try dsimp only at hSw); go_simp; (try with_reducible rfl)); (try simp only [Act.put, List.setIfInBounds_toArray, List.set_cons_zero, List.set_cons_succ]); refine hTake 5 (by kernel_rfl) (by kernel_rfl) (by kernel_rfl) (by decide) (by assumption) ?_; (intro oi hoi; simp only [List.getElem?_toArray, List.getElem?_cons_succ, List.getElem?_cons_zero] at hoi; obtain rfl := Option.some.inj hoi; clear hoi); refine ⟨rfl, ?_⟩; apply Exists.intro; refine ⟨?_, fun _ _ _ h => h, ?_⟩; (intro w hSw; (try dsimp only at hSw); go_simp; (try with_reducible rfl)); (try simp only [Act.put, List.setIfInBounds_toArray, List.set_cons_zero, List.set_cons_succ]); refine hTake 6 (by kernel_rfl) (by kernel_rfl) (by kernel_rfl) (by decide) (by assumption) ?_; (intro oi hoi; simp only [List.getElem?_toArray, List.getElem?_cons_succ, List.getElem?_cons_zero] at hoi; obtain rfl := Option.some.inj hoi; clear hoi); refine ⟨rfl, ?_⟩; apply Exists.intro; refine ⟨?_, fun _ _ _ h => h, ?_⟩; (intro w hSw; (try dsimp only at hSw); go_simp; (try with_reducible rfl)); (try simp only [Act.put, List.setIfInBounds_toArray, List.set_cons_zero, List.set_cons_succ])
            refine hSkip 7 (by kernel_rfl) (by kernel_rfl) (by kernel_rfl) (by decide) (by assumption) ?_; (intro oi hoi; simp only [List.getElem?_toArray, List.getElem?_cons_succ, List.getElem?_cons_zero] at hoi; obtain rfl := Option.some.inj hoi; clear hoi); refine ⟨rfl, fun _ _ _ h => h, ?_⟩; (try simp only [Act.put, List.setIfInBounds_toArray, List.set_cons_zero, List.set_cons_succ]); refine hSkip 8 (by kernel_rfl) (by kernel_rfl) (by kernel_rfl) (by decide) (by assumption) ?_; (intro oi hoi; simp only [List.getElem?_toArray, List.getElem?_cons_succ, List.getElem?_cons_zero] at hoi; obtain rfl := Option.some.inj hoi; clear hoi); refine ⟨rfl, fun _ _ _ h => h, ?_⟩; (try simp only [Act.put, List.setIfInBounds_toArray, List.set_cons_zero, List.set_cons_succ]); refine hSkip 9 (by kernel_rfl) (by kernel_rfl) (by kernel_rfl) (by decide) (by assumption) ?_; (intro oi hoi; simp only [List.getElem?_toArray, List.getElem?_cons_succ, List.getElem?_cons_zero] at hoi; obtain rfl := Option.some.inj hoi; clear hoi); refine ⟨rfl, fun _ _ _ h => h, ?_⟩; (try simp only [Act.put, List.setIfInBounds_toArray, List.set_cons_zero, List.set_cons_succ]); refine hSkip 10 (by kernel_rfl) (by kernel_rfl) (by kernel_rfl) (by decide) (by assumption) ?_; (intro oi hoi; simp only [List.getElem?_toArray, List.getElem?_cons_succ, List.getElem?_cons_zero] at hoi; obtain rfl := Option.some.inj hoi; clear hoi); refine ⟨rfl, fun _ _ _ h => h, ?_⟩; (try simp only [Act.put, List.setIfInBounds_toArray, List.set_cons_zero, List.set_cons_succ]); refine hSkip 11 (by kernel_rfl) (by kernel_rfl) (by kernel_rfl) (by decide) (by assumption) ?_; (intro oi hoi; simp only [List.getElem?_toArray, List.getElem?_cons_succ, List.getElem?_cons_zero] at hoi; obtain rfl := Option.some.inj hoi; clear hoi); refine ⟨rfl, fun _ _ _ h => h, ?_⟩; (try simp only [Act.put, List.setIfInBounds_toArray, List.set_cons_zero, List.set_cons_succ]); refine hSkip 12 (by kernel_rfl) (by kernel_rfl) (by kernel_rfl) (by decide) (by assumption) ?_; (intro oi hoi; simp only [List.getElem?_toArray, List.getElem?_cons_succ, List.getElem?_cons_zero] at hoi; obtain rfl := Option.some.inj hoi; clear hoi); refine ⟨rfl, fun _ _ _ h => h, ?_⟩; (try simp only [Act.put, List.setIfInBounds_toArray, List.set_cons_zero, List.set_cons_succ]); refine hSkip 13 (by kernel_rfl) (by kernel_rfl) (by kernel_rfl) (by decide) (by assumption) ?_; (intro oi hoi; simp only [List.getElem?_toArray, List.getElem?_cons_succ, List.getElem?_cons_zero] at hoi; obtain rfl := Option.some.inj hoi; clear hoi); refine ⟨rfl, fun _ _ _ h => h, ?_⟩; (try simp only [Act.put, List.setIfInBounds_toArray, List.set_cons_zero, List.set_cons_succ]); refine hSkip 14 (by kernel_rfl) (by kernel_rfl) (by kernel_rfl) (by decide) (by assumption) ?_; (intro oi hoi; simp only [List.getElem?_toArray, List.getElem?_cons_succ, List.getElem?_cons_zero] at hoi; obtain rfl := Option.some.inj hoi; clear hoi); refine ⟨rfl, fun _ _ _ h => h, ?_⟩; (try simp only [Act.put, List.setIfInBounds_toArray, List.set_cons_zero, List.set_cons_succ])
            refine hTake 15 (by kernel_rfl) (by kernel_rfl) (by kernel_rfl) (by decide) (by assumption) ?_; (intro oi hoi; simp only [List.getElem?_toArray, List.getElem?_cons_succ, List.getElem?_cons_zero] at hoi; obtain rfl := Option.some.inj hoi; clear hoi); refine ⟨rfl, ?_⟩; apply Exists.intro; refine ⟨?_, fun _ _ _ h => h, ?_⟩; (intro w hSw; (try dsimp only at hSw); go_simp; (try with_reducible rfl)); (try simp only [Act.put, List.setIfInBounds_toArray, List.set_cons_zero, List.set_cons_succ]); refine hTake 16 (by kernel_rfl) (by kernel_rfl) (by kernel_rfl) (by decide) (by assumption) ?_; (intro oi hoi; simp only [List.getElem?_toArray, List.getElem?_cons_succ, List.getElem?_cons_zero] at hoi; obtain rfl := Option.some.inj hoi; clear hoi); refine ⟨rfl, ?_⟩; apply Exists.intro; refine ⟨?_, fun _ _ _ h => h, ?_⟩; (intro w hSw; (try dsimp only at hSw); go_simp; (try with_reducible rfl)); (try simp only [Act.put, List.setIfInBounds_toArray, List.set_cons_zero, List.set_cons_succ])
            refine wpAnyH_done (by kernel_rfl) ?_ _
            go_wp2
            go_roundw
            case rel => exact ⟨k + 1, by omega, by go_num, HNX.out, (by repeat (first | exact Below.refl _ _ | assumption | (with_reducible exact Env.below (by assumption)) | (with_reducible refine below_new ?_ _) | (with_reducible refine below_drew ?_) | (with_reducible refine below_drewN ?_ _) | (with_reducible refine below_put ?_ ?_ _; rotate_left 1; (dsimp only; omega)) | (refine below_then ?_ (by assumption))))⟩
            case measure => simp [intOf]; omega
          · obtain ⟨s1, s2, s3⟩ := par_facts h0 (by omega : k ≤ 1099511627776)
            obtain ⟨p, hp⟩ : ∃ p, p = (k - 1) / 2 := ⟨_, rfl⟩
            have hpx : p < l.length := by rw [← HN.out]; omega
            have hi1 : (0 : Int) ≤ (p : Int) := by omega
            have hi2 : (p : Int) < (n : Int) := by omega
            have hy := List.getElem?_eq_getElem hpx
            rw [← hp] at s2 s3
            have HP := Lib.hid hp
            clear hp
            obtain ⟨y, hye⟩ : ∃ y, y = l[p] := ⟨_, rfl⟩
            rw [← hye] at hy
            have gy := getD_some (d := t0) hy
            obtain ⟨b', off', e', _, f1, f2, f3⟩ := tm_cells hr hy
            simp only [Option.some.injEq, Addr.mk.injEq, and_true] at e'
            obtain ⟨rfl, rfl⟩ := e'
            have hRy : ∀ w', Env w lE w' → w'.cell? ⟨b, off + p * 3, none⟩ = some (.int .i64 y.s) ∧ w'.cell? ⟨b, off + p * 3 + 1, none⟩ = some (.int .i64 y.e) ∧ w'.cell? ⟨b, off + p * 3 + 2, none⟩ = some (.int .i64 y.k) := fun w' h =>
              ⟨(h.1.cell (p := ⟨b, off + p * 3, none⟩) hbB).trans f1, (h.1.cell (p := ⟨b, off + p * 3 + 1, none⟩) hbB).trans f2, (h.1.cell (p := ⟨b, off + p * 3 + 2, none⟩) hbB).trans f3⟩
            have GY := Lib.hid gy
            clear hy hye gy f1 f2 f3 hpx
            have b0 : decide ((0 : Int) < (k : Int)) = true := by simp; omega
            have b2 : decide (0 < k) = true := by simp; omega
            by_cases hlt2 : tlt x y = true
            · have e1 : tck l = 8 := by
                unfold tck
                rw [if_neg (by rw [← HN.out]; exact hlen), if_neg]
                intro h
                have := ((thk_all l).2 h).2 k (by omega) (by rw [← HN.out]; exact hlt)
                rw [← HP.out, GX.out, GY.out, hlt2] at this
                cases this
              have E1 := Lib.hid e1
              clear e1
              go_wp2
              refine wp_region_held_drew (S := Env w lE) (by kernel_rfl) (by (first | assumption | exact Env.step (by assumption) (by assumption) | exact Env.old (by assumption) _ | exact Env.drew hE | exact hE | exact Env.drew (by assumption) | exact Env.drew (Env.old (by assumption) _) | ((repeat first | refine Env.far0 ?_ (by assumption) _ | refine Env.far1 ?_ (by assumption) _ | refine Env.farA ?_ (by assumption) _); assumption))) (fun hHeld => ?_)
              refine hTake 0 (by kernel_rfl) (by kernel_rfl) (by kernel_rfl) (by decide) (by assumption) ?_; (intro oi hoi; simp only [List.getElem?_toArray, List.getElem?_cons_zero] at hoi; obtain rfl := Option.some.inj hoi; clear hoi); refine ⟨rfl, ?_⟩; apply Exists.intro; refine ⟨?_, fun _ _ _ h => h, ?_⟩; (intro w hSw; (try dsimp only at hSw); go_simp; (try with_reducible rfl)); (try simp only [Act.put, List.setIfInBounds_toArray, List.set_cons_zero, List.set_cons_succ])
              refine hOnly 1 (by kernel_rfl) (by decide) ?_; (intro oi hoi; simp only [List.getElem?_toArray, List.getElem?_cons_succ, List.getElem?_cons_zero] at hoi; obtain rfl := Option.some.inj hoi; clear hoi); intro K hK; go_simp
              go_at_call 74
              refine (tright_any x _).mono ?_
              rintro e w1 ⟨rfl, hb1⟩
              have hEhb1 := Env.step hb1 (by assumption); (try (have hqhb1 := (by with_reducible first | exact Loc.below hb1 (Loc.new (Loc.nil _) _ _) | exact Loc.below hb1 (Loc.drew (Loc.new (Loc.nil _) _ _)) | exact Loc.below hb1 (by assumption : Loc _ [_])); (repeat rw [World.size_drew] at hqhb1); (repeat rw [World.size_alloc] at hqhb1); have hrhb1 := hqhb1; (repeat unfold Loc at hrhb1)))
              (refine hK.out _ _ (by (first | assumption | exact Env.step (by assumption) (by assumption) | exact Env.old (by assumption) _ | exact Env.drew hE | exact hE | exact Env.drew (by assumption) | exact Env.drew (Env.old (by assumption) _) | ((repeat first | refine Env.far0 ?_ (by assumption) _ | refine Env.far1 ?_ (by assumption) _ | refine Env.farA ?_ (by assumption) _); assumption))) (fun hHeld => ?_); clear hK K; (try simp only [Act.put, List.setIfInBounds_toArray, List.set_cons_zero, List.set_cons_succ]))
              refine hTake 2 (by kernel_rfl) (by kernel_rfl) (by kernel_rfl) (by decide) (by assumption) ?_; (intro oi hoi; simp only [List.getElem?_toArray, List.getElem?_cons_succ, List.getElem?_cons_zero] at hoi; obtain rfl := Option.some.inj hoi; clear hoi); refine ⟨rfl, ?_⟩; apply Exists.intro; refine ⟨?_, fun _ _ _ h => h, ?_⟩; (intro w hSw; (try dsimp only at hSw); go_simp; (try with_reducible rfl)); (try simp only [Act.put, List.setIfInBounds_toArray, List.set_cons_zero, List.set_cons_succ]); refine hTake 3 (by kernel_rfl) (by kernel_rfl) (by kernel_rfl) (by decide) (by assumption) ?_; (intro oi hoi; simp only [List.getElem?_toArray, List.getElem?_cons_succ, List.getElem?_cons_zero] at hoi; obtain rfl := Option.some.inj hoi; clear hoi); refine ⟨rfl, ?_⟩; apply Exists.intro; refine ⟨?_, fun _ _ _ h => h, ?_⟩; (intro w hSw; (try dsimp only at hSw); go_simp; (try with_reducible rfl)); (try simp only [Act.put, List.setIfInBounds_toArray, List.set_cons_zero, List.set_cons_succ]); refine hTake 4 (by kernel_rfl) (by kernel_rfl) (by kernel_rfl) (by decide) (by assumption) ?_; (intro oi hoi; simp only [List.getElem?_toArray, List.getElem?_cons_succ, List.getElem?_cons_zero] at hoi; obtain rfl := Option.some.inj hoi; clear hoi); refine ⟨rfl, ?_⟩; apply Exists.intro; refine ⟨?_, fun _ _ _ h => h, ?_⟩; (intro w hSw; (try dsimp only at hSw); go_simp; (try with_reducible rfl)); (try simp only [Act.put, List.setIfInBounds_toArray, List.set_cons_zero, List.set_cons_succ]); refine hTake 5 (by kernel_rfl) (by kernel_rfl) (by kernel_rfl) (by decide) (by assumption) ?_; (intro oi hoi; simp only [List.getElem?_toArray, List.getElem?_cons_succ, List.getElem?_cons_zero] at hoi; obtain rfl := Option.some.inj hoi; clear hoi); refine ⟨rfl, ?_⟩; apply Exists.intro; refine ⟨?_, fun _ _ _ h => h, ?_⟩; (intro w hSw; (try dsimp only at hSw); go_simp; (try with_reducible rfl)); (try simp only [Act.put, List.setIfInBounds_toArray, List.set_cons_zero, List.set_cons_succ]); refine hTake 6 (by kernel_rfl) (by kernel_rfl) (by kernel_rfl) (by decide) (by assumption) ?_; (intro oi hoi; simp only [List.getElem?_toArray, List.getElem?_cons_succ, List.getElem?_cons_zero] at hoi; obtain rfl := Option.some.inj hoi; clear hoi); refine ⟨rfl, ?_⟩; apply Exists.intro; refine ⟨?_, fun _ _ _ h => h, ?_⟩; (intro w hSw; (try dsimp only at hSw); go_simp; (try with_reducible rfl)); (try simp only [Act.put, List.setIfInBounds_toArray, List.set_cons_zero, List.set_cons_succ]); refine hTake 7 (by kernel_rfl) (by kernel_rfl) (by kernel_rfl) (by decide) (by assumption) ?_; (intro oi hoi; simp only [List.getElem?_toArray, List.getElem?_cons_succ, List.getElem?_cons_zero] at hoi; obtain rfl := Option.some.inj hoi; clear hoi); refine ⟨rfl, ?_⟩; apply Exists.intro; refine ⟨?_, fun _ _ _ h => h, ?_⟩; (intro w hSw; (try dsimp only at hSw); go_simp; (try with_reducible rfl)); (try simp only [Act.put, List.setIfInBounds_toArray, List.set_cons_zero, List.set_cons_succ]); refine hTake 8 (by kernel_rfl) (by kernel_rfl) (by kernel_rfl) (by decide) (by assumption) ?_; (intro oi hoi; simp only [List.getElem?_toArray, List.getElem?_cons_succ, List.getElem?_cons_zero] at hoi; obtain rfl := Option.some.inj hoi; clear hoi); refine ⟨rfl, ?_⟩; apply Exists.intro; refine ⟨?_, fun _ _ _ h => h, ?_⟩; (intro w hSw; (try dsimp only at hSw); go_simp; (try with_reducible rfl)); (try simp only [Act.put, List.setIfInBounds_toArray, List.set_cons_zero, List.set_cons_succ]); refine hTake 9 (by kernel_rfl) (by kernel_rfl) (by kernel_rfl) (by decide) (by assumption) ?_; (intro oi hoi; simp only [List.getElem?_toArray, List.getElem?_cons_succ, List.getElem?_cons_zero] at hoi; obtain rfl := Option.some.inj hoi; clear hoi); refine ⟨rfl, ?_⟩; apply Exists.intro; refine ⟨?_, fun _ _ _ h => h, ?_⟩; (intro w hSw; (try dsimp only at hSw); go_simp; (try with_reducible rfl)); (try simp only [Act.put, List.setIfInBounds_toArray, List.set_cons_zero, List.set_cons_succ]); refine hTake 10 (by kernel_rfl) (by kernel_rfl) (by kernel_rfl) (by decide) (by assumption) ?_; (intro oi hoi; simp only [List.getElem?_toArray, List.getElem?_cons_succ, List.getElem?_cons_zero] at hoi; obtain rfl := Option.some.inj hoi; clear hoi); refine ⟨rfl, ?_⟩; apply Exists.intro; refine ⟨?_, fun _ _ _ h => h, ?_⟩; (intro w hSw; (try dsimp only at hSw); go_simp; (try with_reducible rfl)); (try simp only [Act.put, List.setIfInBounds_toArray, List.set_cons_zero, List.set_cons_succ]); refine hTake 11 (by kernel_rfl) (by kernel_rfl) (by kernel_rfl) (by decide) (by assumption) ?_; (intro oi hoi; simp only [List.getElem?_toArray, List.getElem?_cons_succ, List.getElem?_cons_zero] at hoi; obtain rfl := Option.some.inj hoi; clear hoi); refine ⟨rfl, ?_⟩; apply Exists.intro; refine ⟨?_, fun _ _ _ h => h, ?_⟩; (intro w hSw; (try dsimp only at hSw); go_simp; (try with_reducible rfl)); (try simp only [Act.put, List.setIfInBounds_toArray, List.set_cons_zero, List.set_cons_succ]); refine hTake 12 (by kernel_rfl) (by kernel_rfl) (by kernel_rfl) (by decide) (by assumption) ?_; (intro oi hoi; simp only [List.getElem?_toArray, List.getElem?_cons_succ, List.getElem?_cons_zero] at hoi; obtain rfl := Option.some.inj hoi; clear hoi); refine ⟨rfl, ?_⟩; apply Exists.intro; refine ⟨?_, fun _ _ _ h => h, ?_⟩; (intro w hSw; (try dsimp only at hSw); go_simp; (try with_reducible rfl)); (try simp only [Act.put, List.setIfInBounds_toArray, List.set_cons_zero, List.set_cons_succ]); refine hTake 13 (by kernel_rfl) (by kernel_rfl) (by kernel_rfl) (by decide) (by assumption) ?_; (intro oi hoi; simp only [List.getElem?_toArray, List.getElem?_cons_succ, List.getElem?_cons_zero] at hoi; obtain rfl := Option.some.inj hoi; clear hoi); refine ⟨rfl, ?_⟩; apply Exists.intro; refine ⟨?_, fun _ _ _ h => h, ?_⟩; (intro w hSw; (try dsimp only at hSw); go_simp; (try with_reducible rfl)); (try simp only [Act.put, List.setIfInBounds_toArray, List.set_cons_zero, List.set_cons_succ])
              refine hOnly 14 (by kernel_rfl) (by decide) ?_; (intro oi hoi; simp only [List.getElem?_toArray, List.getElem?_cons_succ, List.getElem?_cons_zero] at hoi; obtain rfl := Option.some.inj hoi; clear hoi); intro K hK; go_simp
              go_at_call 75
              refine (before_any x y _).mono ?_
              rintro e w2 ⟨rfl, hb2⟩
              have hEhb2 := Env.step hb2 (by assumption); (try (have hqhb2 := (by with_reducible first | exact Loc.below hb2 (Loc.new (Loc.nil _) _ _) | exact Loc.below hb2 (Loc.drew (Loc.new (Loc.nil _) _ _)) | exact Loc.below hb2 (by assumption : Loc _ [_])); (repeat rw [World.size_drew] at hqhb2); (repeat rw [World.size_alloc] at hqhb2); have hrhb2 := hqhb2; (repeat unfold Loc at hrhb2)))
              (refine hK.out _ _ (by (first | assumption | exact Env.step (by assumption) (by assumption) | exact Env.old (by assumption) _ | exact Env.drew hE | exact hE | exact Env.drew (by assumption) | exact Env.drew (Env.old (by assumption) _) | ((repeat first | refine Env.far0 ?_ (by assumption) _ | refine Env.far1 ?_ (by assumption) _ | refine Env.farA ?_ (by assumption) _); assumption))) (fun hHeld => ?_); clear hK K; (try simp only [Act.put, List.setIfInBounds_toArray, List.set_cons_zero, List.set_cons_succ]))
              refine hTake 15 (by kernel_rfl) (by kernel_rfl) (by kernel_rfl) (by decide) (by assumption) ?_; (intro oi hoi; simp only [List.getElem?_toArray, List.getElem?_cons_succ, List.getElem?_cons_zero] at hoi; obtain rfl := Option.some.inj hoi; clear hoi); refine ⟨rfl, ?_⟩; apply Exists.intro; refine ⟨?_, fun _ _ _ h => h, ?_⟩; (intro w hSw; (try dsimp only at hSw); go_simp; (try with_reducible rfl)); (try simp only [Act.put, List.setIfInBounds_toArray, List.set_cons_zero, List.set_cons_succ]); refine hTake 16 (by kernel_rfl) (by kernel_rfl) (by kernel_rfl) (by decide) (by assumption) ?_; (intro oi hoi; simp only [List.getElem?_toArray, List.getElem?_cons_succ, List.getElem?_cons_zero] at hoi; obtain rfl := Option.some.inj hoi; clear hoi); refine ⟨rfl, ?_⟩; apply Exists.intro; refine ⟨?_, fun _ _ _ h => h, ?_⟩; (intro w hSw; (try dsimp only at hSw); go_simp; (try with_reducible rfl)); (try simp only [Act.put, List.setIfInBounds_toArray, List.set_cons_zero, List.set_cons_succ])
              refine wpAnyH_done (by kernel_rfl) ?_ _
              go_wp2
              go_ret
              exact ⟨ret_i64 E1.out.symm, (by repeat (first | exact Below.refl _ _ | assumption | (with_reducible exact Env.below (by assumption)) | (with_reducible refine below_new ?_ _) | (with_reducible refine below_drew ?_) | (with_reducible refine below_drewN ?_ _) | (with_reducible refine below_put ?_ ?_ _; rotate_left 1; (dsimp only; omega)) | (refine below_then ?_ (by assumption))))⟩
            · have hlt3 : tlt x y = false := by simpa using hlt2
              have hnx : thk l (k + 1) := thk_succ HT.out (by rw [GX.out]; exact HOK.out) (fun h => by rw [← HP.out, GX.out, GY.out]; exact hlt3)
              have HNX := Lib.hid hnx
              clear hnx hlt2
              go_wp2
              refine wp_region_held_drew (S := Env w lE) (by kernel_rfl) (by (first | assumption | exact Env.step (by assumption) (by assumption) | exact Env.old (by assumption) _ | exact Env.drew hE | exact hE | exact Env.drew (by assumption) | exact Env.drew (Env.old (by assumption) _) | ((repeat first | refine Env.far0 ?_ (by assumption) _ | refine Env.far1 ?_ (by assumption) _ | refine Env.farA ?_ (by assumption) _); assumption))) (fun hHeld => ?_)
              refine hTake 0 (by kernel_rfl) (by kernel_rfl) (by kernel_rfl) (by decide) (by assumption) ?_; (intro oi hoi; simp only [List.getElem?_toArray, List.getElem?_cons_zero] at hoi; obtain rfl := Option.some.inj hoi; clear hoi); refine ⟨rfl, ?_⟩; apply Exists.intro; refine ⟨?_, fun _ _ _ h => h, ?_⟩; (intro w hSw; (try dsimp only at hSw); go_simp; (try with_reducible rfl)); (try simp only [Act.put, List.setIfInBounds_toArray, List.set_cons_zero, List.set_cons_succ])
              refine hOnly 1 (by kernel_rfl) (by decide) ?_; (intro oi hoi; simp only [List.getElem?_toArray, List.getElem?_cons_succ, List.getElem?_cons_zero] at hoi; obtain rfl := Option.some.inj hoi; clear hoi); intro K hK; go_simp
              go_at_call 74
              refine (tright_any x _).mono ?_
              rintro e w1 ⟨rfl, hb1⟩
              have hEhb1 := Env.step hb1 (by assumption); (try (have hqhb1 := (by with_reducible first | exact Loc.below hb1 (Loc.new (Loc.nil _) _ _) | exact Loc.below hb1 (Loc.drew (Loc.new (Loc.nil _) _ _)) | exact Loc.below hb1 (by assumption : Loc _ [_])); (repeat rw [World.size_drew] at hqhb1); (repeat rw [World.size_alloc] at hqhb1); have hrhb1 := hqhb1; (repeat unfold Loc at hrhb1)))
              (refine hK.out _ _ (by (first | assumption | exact Env.step (by assumption) (by assumption) | exact Env.old (by assumption) _ | exact Env.drew hE | exact hE | exact Env.drew (by assumption) | exact Env.drew (Env.old (by assumption) _) | ((repeat first | refine Env.far0 ?_ (by assumption) _ | refine Env.far1 ?_ (by assumption) _ | refine Env.farA ?_ (by assumption) _); assumption))) (fun hHeld => ?_); clear hK K; (try simp only [Act.put, List.setIfInBounds_toArray, List.set_cons_zero, List.set_cons_succ]))
              refine hTake 2 (by kernel_rfl) (by kernel_rfl) (by kernel_rfl) (by decide) (by assumption) ?_; (intro oi hoi; simp only [List.getElem?_toArray, List.getElem?_cons_succ, List.getElem?_cons_zero] at hoi; obtain rfl := Option.some.inj hoi; clear hoi); refine ⟨rfl, ?_⟩; apply Exists.intro; refine ⟨?_, fun _ _ _ h => h, ?_⟩; (intro w hSw; (try dsimp only at hSw); go_simp; (try with_reducible rfl)); (try simp only [Act.put, List.setIfInBounds_toArray, List.set_cons_zero, List.set_cons_succ]); refine hTake 3 (by kernel_rfl) (by kernel_rfl) (by kernel_rfl) (by decide) (by assumption) ?_; (intro oi hoi; simp only [List.getElem?_toArray, List.getElem?_cons_succ, List.getElem?_cons_zero] at hoi; obtain rfl := Option.some.inj hoi; clear hoi); refine ⟨rfl, ?_⟩; apply Exists.intro; refine ⟨?_, fun _ _ _ h => h, ?_⟩; (intro w hSw; (try dsimp only at hSw); go_simp; (try with_reducible rfl)); (try simp only [Act.put, List.setIfInBounds_toArray, List.set_cons_zero, List.set_cons_succ]); refine hTake 4 (by kernel_rfl) (by kernel_rfl) (by kernel_rfl) (by decide) (by assumption) ?_; (intro oi hoi; simp only [List.getElem?_toArray, List.getElem?_cons_succ, List.getElem?_cons_zero] at hoi; obtain rfl := Option.some.inj hoi; clear hoi); refine ⟨rfl, ?_⟩; apply Exists.intro; refine ⟨?_, fun _ _ _ h => h, ?_⟩; (intro w hSw; (try dsimp only at hSw); go_simp; (try with_reducible rfl)); (try simp only [Act.put, List.setIfInBounds_toArray, List.set_cons_zero, List.set_cons_succ]); refine hTake 5 (by kernel_rfl) (by kernel_rfl) (by kernel_rfl) (by decide) (by assumption) ?_; (intro oi hoi; simp only [List.getElem?_toArray, List.getElem?_cons_succ, List.getElem?_cons_zero] at hoi; obtain rfl := Option.some.inj hoi; clear hoi); refine ⟨rfl, ?_⟩; apply Exists.intro; refine ⟨?_, fun _ _ _ h => h, ?_⟩; (intro w hSw; (try dsimp only at hSw); go_simp; (try with_reducible rfl)); (try simp only [Act.put, List.setIfInBounds_toArray, List.set_cons_zero, List.set_cons_succ]); refine hTake 6 (by kernel_rfl) (by kernel_rfl) (by kernel_rfl) (by decide) (by assumption) ?_; (intro oi hoi; simp only [List.getElem?_toArray, List.getElem?_cons_succ, List.getElem?_cons_zero] at hoi; obtain rfl := Option.some.inj hoi; clear hoi); refine ⟨rfl, ?_⟩; apply Exists.intro; refine ⟨?_, fun _ _ _ h => h, ?_⟩; (intro w hSw; (try dsimp only at hSw); go_simp; (try with_reducible rfl)); (try simp only [Act.put, List.setIfInBounds_toArray, List.set_cons_zero, List.set_cons_succ]); refine hTake 7 (by kernel_rfl) (by kernel_rfl) (by kernel_rfl) (by decide) (by assumption) ?_; (intro oi hoi; simp only [List.getElem?_toArray, List.getElem?_cons_succ, List.getElem?_cons_zero] at hoi; obtain rfl := Option.some.inj hoi; clear hoi); refine ⟨rfl, ?_⟩; apply Exists.intro; refine ⟨?_, fun _ _ _ h => h, ?_⟩; (intro w hSw; (try dsimp only at hSw); go_simp; (try with_reducible rfl)); (try simp only [Act.put, List.setIfInBounds_toArray, List.set_cons_zero, List.set_cons_succ]); refine hTake 8 (by kernel_rfl) (by kernel_rfl) (by kernel_rfl) (by decide) (by assumption) ?_; (intro oi hoi; simp only [List.getElem?_toArray, List.getElem?_cons_succ, List.getElem?_cons_zero] at hoi; obtain rfl := Option.some.inj hoi; clear hoi); refine ⟨rfl, ?_⟩; apply Exists.intro; refine ⟨?_, fun _ _ _ h => h, ?_⟩; (intro w hSw; (try dsimp only at hSw); go_simp; (try with_reducible rfl)); (try simp only [Act.put, List.setIfInBounds_toArray, List.set_cons_zero, List.set_cons_succ]); refine hTake 9 (by kernel_rfl) (by kernel_rfl) (by kernel_rfl) (by decide) (by assumption) ?_; (intro oi hoi; simp only [List.getElem?_toArray, List.getElem?_cons_succ, List.getElem?_cons_zero] at hoi; obtain rfl := Option.some.inj hoi; clear hoi); refine ⟨rfl, ?_⟩; apply Exists.intro; refine ⟨?_, fun _ _ _ h => h, ?_⟩; (intro w hSw; (try dsimp only at hSw); go_simp; (try with_reducible rfl)); (try simp only [Act.put, List.setIfInBounds_toArray, List.set_cons_zero, List.set_cons_succ]); refine hTake 10 (by kernel_rfl) (by kernel_rfl) (by kernel_rfl) (by decide) (by assumption) ?_; (intro oi hoi; simp only [List.getElem?_toArray, List.getElem?_cons_succ, List.getElem?_cons_zero] at hoi; obtain rfl := Option.some.inj hoi; clear hoi); refine ⟨rfl, ?_⟩; apply Exists.intro; refine ⟨?_, fun _ _ _ h => h, ?_⟩; (intro w hSw; (try dsimp only at hSw); go_simp; (try with_reducible rfl)); (try simp only [Act.put, List.setIfInBounds_toArray, List.set_cons_zero, List.set_cons_succ]); refine hTake 11 (by kernel_rfl) (by kernel_rfl) (by kernel_rfl) (by decide) (by assumption) ?_; (intro oi hoi; simp only [List.getElem?_toArray, List.getElem?_cons_succ, List.getElem?_cons_zero] at hoi; obtain rfl := Option.some.inj hoi; clear hoi); refine ⟨rfl, ?_⟩; apply Exists.intro; refine ⟨?_, fun _ _ _ h => h, ?_⟩; (intro w hSw; (try dsimp only at hSw); go_simp; (try with_reducible rfl)); (try simp only [Act.put, List.setIfInBounds_toArray, List.set_cons_zero, List.set_cons_succ]); refine hTake 12 (by kernel_rfl) (by kernel_rfl) (by kernel_rfl) (by decide) (by assumption) ?_; (intro oi hoi; simp only [List.getElem?_toArray, List.getElem?_cons_succ, List.getElem?_cons_zero] at hoi; obtain rfl := Option.some.inj hoi; clear hoi); refine ⟨rfl, ?_⟩; apply Exists.intro; refine ⟨?_, fun _ _ _ h => h, ?_⟩; (intro w hSw; (try dsimp only at hSw); go_simp; (try with_reducible rfl)); (try simp only [Act.put, List.setIfInBounds_toArray, List.set_cons_zero, List.set_cons_succ]); refine hTake 13 (by kernel_rfl) (by kernel_rfl) (by kernel_rfl) (by decide) (by assumption) ?_; (intro oi hoi; simp only [List.getElem?_toArray, List.getElem?_cons_succ, List.getElem?_cons_zero] at hoi; obtain rfl := Option.some.inj hoi; clear hoi); refine ⟨rfl, ?_⟩; apply Exists.intro; refine ⟨?_, fun _ _ _ h => h, ?_⟩; (intro w hSw; (try dsimp only at hSw); go_simp; (try with_reducible rfl)); (try simp only [Act.put, List.setIfInBounds_toArray, List.set_cons_zero, List.set_cons_succ])
              refine hOnly 14 (by kernel_rfl) (by decide) ?_; (intro oi hoi; simp only [List.getElem?_toArray, List.getElem?_cons_succ, List.getElem?_cons_zero] at hoi; obtain rfl := Option.some.inj hoi; clear hoi); intro K hK; go_simp
              go_at_call 75
              refine (before_any x y _).mono ?_
              rintro e w2 ⟨rfl, hb2⟩
              have hEhb2 := Env.step hb2 (by assumption); (try (have hqhb2 := (by with_reducible first | exact Loc.below hb2 (Loc.new (Loc.nil _) _ _) | exact Loc.below hb2 (Loc.drew (Loc.new (Loc.nil _) _ _)) | exact Loc.below hb2 (by assumption : Loc _ [_])); (repeat rw [World.size_drew] at hqhb2); (repeat rw [World.size_alloc] at hqhb2); have hrhb2 := hqhb2; (repeat unfold Loc at hrhb2)))
              (refine hK.out _ _ (by (first | assumption | exact Env.step (by assumption) (by assumption) | exact Env.old (by assumption) _ | exact Env.drew hE | exact hE | exact Env.drew (by assumption) | exact Env.drew (Env.old (by assumption) _) | ((repeat first | refine Env.far0 ?_ (by assumption) _ | refine Env.far1 ?_ (by assumption) _ | refine Env.farA ?_ (by assumption) _); assumption))) (fun hHeld => ?_); clear hK K; (try simp only [Act.put, List.setIfInBounds_toArray, List.set_cons_zero, List.set_cons_succ]))
              refine hTake 15 (by kernel_rfl) (by kernel_rfl) (by kernel_rfl) (by decide) (by assumption) ?_; (intro oi hoi; simp only [List.getElem?_toArray, List.getElem?_cons_succ, List.getElem?_cons_zero] at hoi; obtain rfl := Option.some.inj hoi; clear hoi); refine ⟨rfl, ?_⟩; apply Exists.intro; refine ⟨?_, fun _ _ _ h => h, ?_⟩; (intro w hSw; (try dsimp only at hSw); go_simp; (try with_reducible rfl)); (try simp only [Act.put, List.setIfInBounds_toArray, List.set_cons_zero, List.set_cons_succ]); refine hTake 16 (by kernel_rfl) (by kernel_rfl) (by kernel_rfl) (by decide) (by assumption) ?_; (intro oi hoi; simp only [List.getElem?_toArray, List.getElem?_cons_succ, List.getElem?_cons_zero] at hoi; obtain rfl := Option.some.inj hoi; clear hoi); refine ⟨rfl, ?_⟩; apply Exists.intro; refine ⟨?_, fun _ _ _ h => h, ?_⟩; (intro w hSw; (try dsimp only at hSw); go_simp; (try with_reducible rfl)); (try simp only [Act.put, List.setIfInBounds_toArray, List.set_cons_zero, List.set_cons_succ])
              refine wpAnyH_done (by kernel_rfl) ?_ _
              go_wp2
              go_roundw
              case rel => exact ⟨k + 1, by omega, by go_num, HNX.out, (by repeat (first | exact Below.refl _ _ | assumption | (with_reducible exact Env.below (by assumption)) | (with_reducible refine below_new ?_ _) | (with_reducible refine below_drew ?_) | (with_reducible refine below_drewN ?_ _) | (with_reducible refine below_put ?_ ?_ _; rotate_left 1; (dsimp only; omega)) | (refine below_then ?_ (by assumption))))⟩
              case measure => simp [intOf]; omega
        · have b1 : decide (tok x) = false := by simp [hok]
          have e1 : tck l = 8 := by
            unfold tck
            rw [if_neg (by rw [← HN.out]; exact hlen), if_neg]
            intro h
            have := ((thk_all l).2 h).1 k (by rw [← HN.out]; exact hlt)
            rw [GX.out] at this
            exact hok this
          have E1 := Lib.hid e1
          clear e1 hok
          go_wp2
          refine wp_region_held_drew (S := Env w lE) (by kernel_rfl) (by (first | assumption | exact Env.step (by assumption) (by assumption) | exact Env.old (by assumption) _ | exact Env.drew hE | exact hE | exact Env.drew (by assumption) | exact Env.drew (Env.old (by assumption) _) | ((repeat first | refine Env.far0 ?_ (by assumption) _ | refine Env.far1 ?_ (by assumption) _ | refine Env.farA ?_ (by assumption) _); assumption))) (fun hHeld => ?_)
          refine hTake 0 (by kernel_rfl) (by kernel_rfl) (by kernel_rfl) (by decide) (by assumption) ?_; (intro oi hoi; simp only [List.getElem?_toArray, List.getElem?_cons_zero] at hoi; obtain rfl := Option.some.inj hoi; clear hoi); refine ⟨rfl, ?_⟩; apply Exists.intro; refine ⟨?_, fun _ _ _ h => h, ?_⟩; (intro w hSw; (try dsimp only at hSw); go_simp; (try with_reducible rfl)); (try simp only [Act.put, List.setIfInBounds_toArray, List.set_cons_zero, List.set_cons_succ])
          refine hOnly 1 (by kernel_rfl) (by decide) ?_; (intro oi hoi; simp only [List.getElem?_toArray, List.getElem?_cons_succ, List.getElem?_cons_zero] at hoi; obtain rfl := Option.some.inj hoi; clear hoi); intro K hK; go_simp
          go_at_call 74
          refine (tright_any x _).mono ?_
          rintro e w1 ⟨rfl, hb1⟩
          have hEhb1 := Env.step hb1 (by assumption); (try (have hqhb1 := (by with_reducible first | exact Loc.below hb1 (Loc.new (Loc.nil _) _ _) | exact Loc.below hb1 (Loc.drew (Loc.new (Loc.nil _) _ _)) | exact Loc.below hb1 (by assumption : Loc _ [_])); (repeat rw [World.size_drew] at hqhb1); (repeat rw [World.size_alloc] at hqhb1); have hrhb1 := hqhb1; (repeat unfold Loc at hrhb1)))
          (refine hK.out _ _ (by (first | assumption | exact Env.step (by assumption) (by assumption) | exact Env.old (by assumption) _ | exact Env.drew hE | exact hE | exact Env.drew (by assumption) | exact Env.drew (Env.old (by assumption) _) | ((repeat first | refine Env.far0 ?_ (by assumption) _ | refine Env.far1 ?_ (by assumption) _ | refine Env.farA ?_ (by assumption) _); assumption))) (fun hHeld => ?_); clear hK K; (try simp only [Act.put, List.setIfInBounds_toArray, List.set_cons_zero, List.set_cons_succ]))
          refine hTake 2 (by kernel_rfl) (by kernel_rfl) (by kernel_rfl) (by decide) (by assumption) ?_; (intro oi hoi; simp only [List.getElem?_toArray, List.getElem?_cons_succ, List.getElem?_cons_zero] at hoi; obtain rfl := Option.some.inj hoi; clear hoi); refine ⟨rfl, ?_⟩; apply Exists.intro; refine ⟨?_, fun _ _ _ h => h, ?_⟩; (intro w hSw; (try dsimp only at hSw); go_simp; (try with_reducible rfl)); (try simp only [Act.put, List.setIfInBounds_toArray, List.set_cons_zero, List.set_cons_succ]); refine hTake 3 (by kernel_rfl) (by kernel_rfl) (by kernel_rfl) (by decide) (by assumption) ?_; (intro oi hoi; simp only [List.getElem?_toArray, List.getElem?_cons_succ, List.getElem?_cons_zero] at hoi; obtain rfl := Option.some.inj hoi; clear hoi); refine ⟨rfl, ?_⟩; apply Exists.intro; refine ⟨?_, fun _ _ _ h => h, ?_⟩; (intro w hSw; (try dsimp only at hSw); go_simp; (try with_reducible rfl)); (try simp only [Act.put, List.setIfInBounds_toArray, List.set_cons_zero, List.set_cons_succ])
          refine hSkip 4 (by kernel_rfl) (by kernel_rfl) (by kernel_rfl) (by decide) (by assumption) ?_; (intro oi hoi; simp only [List.getElem?_toArray, List.getElem?_cons_succ, List.getElem?_cons_zero] at hoi; obtain rfl := Option.some.inj hoi; clear hoi); refine ⟨rfl, fun _ _ _ h => h, ?_⟩; (try simp only [Act.put, List.setIfInBounds_toArray, List.set_cons_zero, List.set_cons_succ]); refine hSkip 5 (by kernel_rfl) (by kernel_rfl) (by kernel_rfl) (by decide) (by assumption) ?_; (intro oi hoi; simp only [List.getElem?_toArray, List.getElem?_cons_succ, List.getElem?_cons_zero] at hoi; obtain rfl := Option.some.inj hoi; clear hoi); refine ⟨rfl, fun _ _ _ h => h, ?_⟩; (try simp only [Act.put, List.setIfInBounds_toArray, List.set_cons_zero, List.set_cons_succ]); refine hSkip 6 (by kernel_rfl) (by kernel_rfl) (by kernel_rfl) (by decide) (by assumption) ?_; (intro oi hoi; simp only [List.getElem?_toArray, List.getElem?_cons_succ, List.getElem?_cons_zero] at hoi; obtain rfl := Option.some.inj hoi; clear hoi); refine ⟨rfl, fun _ _ _ h => h, ?_⟩; (try simp only [Act.put, List.setIfInBounds_toArray, List.set_cons_zero, List.set_cons_succ]); refine hSkip 7 (by kernel_rfl) (by kernel_rfl) (by kernel_rfl) (by decide) (by assumption) ?_; (intro oi hoi; simp only [List.getElem?_toArray, List.getElem?_cons_succ, List.getElem?_cons_zero] at hoi; obtain rfl := Option.some.inj hoi; clear hoi); refine ⟨rfl, fun _ _ _ h => h, ?_⟩; (try simp only [Act.put, List.setIfInBounds_toArray, List.set_cons_zero, List.set_cons_succ]); refine hSkip 8 (by kernel_rfl) (by kernel_rfl) (by kernel_rfl) (by decide) (by assumption) ?_; (intro oi hoi; simp only [List.getElem?_toArray, List.getElem?_cons_succ, List.getElem?_cons_zero] at hoi; obtain rfl := Option.some.inj hoi; clear hoi); refine ⟨rfl, fun _ _ _ h => h, ?_⟩; (try simp only [Act.put, List.setIfInBounds_toArray, List.set_cons_zero, List.set_cons_succ]); refine hSkip 9 (by kernel_rfl) (by kernel_rfl) (by kernel_rfl) (by decide) (by assumption) ?_; (intro oi hoi; simp only [List.getElem?_toArray, List.getElem?_cons_succ, List.getElem?_cons_zero] at hoi; obtain rfl := Option.some.inj hoi; clear hoi); refine ⟨rfl, fun _ _ _ h => h, ?_⟩; (try simp only [Act.put, List.setIfInBounds_toArray, List.set_cons_zero, List.set_cons_succ]); refine hSkip 10 (by kernel_rfl) (by kernel_rfl) (by kernel_rfl) (by decide) (by assumption) ?_; (intro oi hoi; simp only [List.getElem?_toArray, List.getElem?_cons_succ, List.getElem?_cons_zero] at hoi; obtain rfl := Option.some.inj hoi; clear hoi); refine ⟨rfl, fun _ _ _ h => h, ?_⟩; (try simp only [Act.put, List.setIfInBounds_toArray, List.set_cons_zero, List.set_cons_succ]); refine hSkip 11 (by kernel_rfl) (by kernel_rfl) (by kernel_rfl) (by decide) (by assumption) ?_; (intro oi hoi; simp only [List.getElem?_toArray, List.getElem?_cons_succ, List.getElem?_cons_zero] at hoi; obtain rfl := Option.some.inj hoi; clear hoi); refine ⟨rfl, fun _ _ _ h => h, ?_⟩; (try simp only [Act.put, List.setIfInBounds_toArray, List.set_cons_zero, List.set_cons_succ]); refine hSkip 12 (by kernel_rfl) (by kernel_rfl) (by kernel_rfl) (by decide) (by assumption) ?_; (intro oi hoi; simp only [List.getElem?_toArray, List.getElem?_cons_succ, List.getElem?_cons_zero] at hoi; obtain rfl := Option.some.inj hoi; clear hoi); refine ⟨rfl, fun _ _ _ h => h, ?_⟩; (try simp only [Act.put, List.setIfInBounds_toArray, List.set_cons_zero, List.set_cons_succ]); refine hSkip 13 (by kernel_rfl) (by kernel_rfl) (by kernel_rfl) (by decide) (by assumption) ?_; (intro oi hoi; simp only [List.getElem?_toArray, List.getElem?_cons_succ, List.getElem?_cons_zero] at hoi; obtain rfl := Option.some.inj hoi; clear hoi); refine ⟨rfl, fun _ _ _ h => h, ?_⟩; (try simp only [Act.put, List.setIfInBounds_toArray, List.set_cons_zero, List.set_cons_succ]); refine hSkip 14 (by kernel_rfl) (by kernel_rfl) (by kernel_rfl) (by decide) (by assumption) ?_; (intro oi hoi; simp only [List.getElem?_toArray, List.getElem?_cons_succ, List.getElem?_cons_zero] at hoi; obtain rfl := Option.some.inj hoi; clear hoi); refine ⟨rfl, fun _ _ _ h => h, ?_⟩; (try simp only [Act.put, List.setIfInBounds_toArray, List.set_cons_zero, List.set_cons_succ]); refine hSkip 15 (by kernel_rfl) (by kernel_rfl) (by kernel_rfl) (by decide) (by assumption) ?_; (intro oi hoi; simp only [List.getElem?_toArray, List.getElem?_cons_succ, List.getElem?_cons_zero] at hoi; obtain rfl := Option.some.inj hoi; clear hoi); refine ⟨rfl, fun _ _ _ h => h, ?_⟩; (try simp only [Act.put, List.setIfInBounds_toArray, List.set_cons_zero, List.set_cons_succ])
          refine hTake 16 (by kernel_rfl) (by kernel_rfl) (by kernel_rfl) (by decide) (by assumption) ?_; (intro oi hoi; simp only [List.getElem?_toArray, List.getElem?_cons_succ, List.getElem?_cons_zero] at hoi; obtain rfl := Option.some.inj hoi; clear hoi); refine ⟨rfl, ?_⟩; apply Exists.intro; refine ⟨?_, fun _ _ _ h => h, ?_⟩; (intro w hSw; (try dsimp only at hSw); go_simp; (try with_reducible rfl)); (try simp only [Act.put, List.setIfInBounds_toArray, List.set_cons_zero, List.set_cons_succ])
          refine wpAnyH_done (by kernel_rfl) ?_ _
          go_wp2
          go_ret
          exact ⟨ret_i64 E1.out.symm, (by repeat (first | exact Below.refl _ _ | assumption | (with_reducible exact Env.below (by assumption)) | (with_reducible refine below_new ?_ _) | (with_reducible refine below_drew ?_) | (with_reducible refine below_drewN ?_ _) | (with_reducible refine below_put ?_ ?_ _; rotate_left 1; (dsimp only; omega)) | (refine below_then ?_ (by assumption))))⟩
      · obtain rfl : k = n := by omega
        have e1 : tck l = 0 := by
          have := HT.out
          rw [HN.out, thk_all] at this
          unfold tck
          rw [if_neg (by rw [← HN.out]; exact hlen), if_pos this]
        have E1 := Lib.hid e1
        clear e1
        go_wp2
        go_ret
        exact ⟨ret_i64 E1.out.symm, hb⟩
end Go.Proofs.Ytffehibdeogjeaa

/- The contracts of the reference of the timers (chapter 18): the order, the comparing of lists. Condition: lists of at most 2^40 timers. -/
namespace Go.Proofs.Ytffehibdeogjeaa
open Go.RowKit

set_option maxHeartbeats 2000000 in
theorem rless_any (k1 s1 e1 k2 s2 e2 : Int) (a0 a1 a2 a3 a4 a5 a6 a7 b0 b1 b2 b3 b4 b5 b6 b7 : Int) (w : World) :
    Calls Try.prog 76 #[.agg #[.int .i64 k1, .int .i64 s1, .int .i64 e1, .int .i64 a0, .int .i64 a1, .int .i64 a2, .int .i64 a3, .int .i64 a4, .int .i64 a5, .int .i64 a6, .int .i64 a7],
        .agg #[.int .i64 k2, .int .i64 s2, .int .i64 e2, .int .i64 b0, .int .i64 b1, .int .i64 b2, .int .i64 b3, .int .i64 b4, .int .i64 b5, .int .i64 b6, .int .i64 b7]] w
      fun e w' => e = .returned (.bool (tlt ⟨s1, e1, k1⟩ ⟨s2, e2, k2⟩)) ∧ Below w.heap.size w w' := by
  by_cases h1 : e1 = e2
  · have b1 : (e1 != e2) = false := by simp [h1]
    have H1 := Lib.hid h1
    clear h1
    by_cases h2 : s1 = s2
    · have b2 : (s1 != s2) = false := by simp [h2]
      have H2 := Lib.hid h2
      clear h2
      go_enter Try.func76, Try.ntmps76
      go_wp2
      go_ret
      exact ⟨ret_bool (by have h1 := H1.out; have h2 := H2.out; subst h1 h2; simp [tlt]), (by repeat (first | exact Below.refl _ _ | assumption | (with_reducible exact Env.below (by assumption)) | (with_reducible refine below_new ?_ _) | (with_reducible refine below_drew ?_) | (with_reducible refine below_drewN ?_ _) | (with_reducible refine below_put ?_ ?_ _; rotate_left 1; (dsimp only; omega)) | (refine below_then ?_ (by assumption))))⟩
    · have b2 : (s1 != s2) = true := by simp [h2]
      have H2 := Lib.hid h2
      clear h2
      go_enter Try.func76, Try.ntmps76
      go_wp2
      go_ret
      exact ⟨ret_bool (by have h1 := H1.out; have h2 := H2.out; subst h1; simp [tlt, h2]), (by repeat (first | exact Below.refl _ _ | assumption | (with_reducible exact Env.below (by assumption)) | (with_reducible refine below_new ?_ _) | (with_reducible refine below_drew ?_) | (with_reducible refine below_drewN ?_ _) | (with_reducible refine below_put ?_ ?_ _; rotate_left 1; (dsimp only; omega)) | (refine below_then ?_ (by assumption))))⟩
  · have b1 : (e1 != e2) = true := by simp [h1]
    have H1 := Lib.hid h1
    clear h1
    go_enter Try.func76, Try.ntmps76
    go_wp2
    go_ret
    exact ⟨ret_bool (by have h1 := H1.out; simp [tlt, h1]), (by repeat (first | exact Below.refl _ _ | assumption | (with_reducible exact Env.below (by assumption)) | (with_reducible refine below_new ?_ _) | (with_reducible refine below_drew ?_) | (with_reducible refine below_drewN ?_ _) | (with_reducible refine below_put ?_ ?_ _; rotate_left 1; (dsimp only; omega)) | (refine below_then ?_ (by assumption))))⟩

set_option maxHeartbeats 2000000 in
theorem rtless_any (a b : Tm) (w : World) :
    Calls Try.prog 29 #[.agg #[.int .i64 a.s, .int .i64 a.e, .int .i64 a.k], .agg #[.int .i64 b.s, .int .i64 b.e, .int .i64 b.k]] w fun e w' => e = .returned (.bool (tlt a b)) ∧ Below w.heap.size w w' := by
  have hL : Loc w [] := trivial
  go_enter Try.func29, Try.ntmps29
  go_wp2_with (go_at_call 76; refine (rless_any _ _ _ _ _ _ _ _ _ _ _ _ _ _ _ _ _ _ _ _ _ _ _).mono ?_; rintro r w1 ⟨rfl, hb1⟩; replace hL := (by with_reducible first | exact hL.below hb1 | exact (hL.new _ _).below hb1 | exact ((hL.new _ _).new _ _).below hb1 | exact (((hL.new _ _).new _ _).new _ _).below hb1 | exact ((((hL.new _ _).new _ _).new _ _).new _ _).below hb1); (repeat rw [World.size_alloc] at hL); have hF := hL; (repeat unfold Loc at hF))
  go_ret
  exact ⟨rfl, (by repeat (first | exact Below.refl _ _ | assumption | (with_reducible exact Env.below (by assumption)) | (with_reducible refine below_new ?_ _) | (with_reducible refine below_drew ?_) | (with_reducible refine below_drewN ?_ _) | (with_reducible refine below_put ?_ ?_ _; rotate_left 1; (dsimp only; omega)) | (refine below_then ?_ (by assumption))))⟩

def tmsEq (l m : List Tm) : Bool := decide (l = m)
set_option maxHeartbeats 4000000 in
theorem tsame_any (A A' : Option Addr) (c c' : Nat) (l m : List Tm) (w : World) (hl : Rd tenc 3 w w.heap.size A l) (hm : Rd tenc 3 w w.heap.size A' m) (hn : l.length ≤ 4611686018427387904) :
    Calls Try.prog 25 #[.slice A l.length c, .slice A' m.length c'] w fun e w' => e = .returned (.bool (tmsEq l m)) ∧ Below w.heap.size w w' := by
  by_cases hlen : l.length = m.length
  · have h1 : ((l.length : Int) != (m.length : Int)) = false := by simp [hlen]
    obtain ⟨n, hn'⟩ : ∃ n, n = l.length := ⟨_, rfl⟩
    have hlm := hlen.symm.trans hn'.symm
    rw [← hn'] at h1 hn ⊢
    rw [hlm] at h1 ⊢
    have hl' := Lib.hid hn'; have hm' := Lib.hid hlm
    clear hlen hn' hlm h1
    go_enter Try.func25, Try.ntmps25
    go_wp2
    go_loopw [5] (fun i wr => ∃ k : Nat, k ≤ n ∧ i = .int .i64 k ∧ l.take k = m.take k ∧ ∃ q : Nat, wr = w.drewN q) (fun i _ => n - (intOf i).toNat)
    case atStart => exact ⟨0, Nat.zero_le _, rfl, by simp, 0, rfl⟩
    case round =>
      obtain ⟨k, hk, rfl, hall, q, rfl⟩ := hrel
      by_cases hlt : k < n
      · have hkl : k < l.length := by rw [← hl'.out]; exact hlt
        have hkm : k < m.length := by rw [hm'.out]; exact hlt
        have hx := List.getElem?_eq_getElem hkl
        have hy := List.getElem?_eq_getElem hkm
        have hts : ∀ (e : l[k] = m[k]), l.take (k + 1) = m.take (k + 1) := fun e => by
          rw [List.take_succ_eq_append_getElem hkl, List.take_succ_eq_append_getElem hkm, hall, e]
        have htn : ∀ (e : l[k] ≠ m[k]), l ≠ m := fun e h => by subst h; exact e rfl
        obtain ⟨b, off, rfl, hb, f1, f2, f3⟩ := tm_cells hl hx
        obtain ⟨b', off', rfl, hb', g1, g2, g3⟩ := tm_cells hm hy
        obtain ⟨x, hxe⟩ : ∃ x, x = l[k] := ⟨_, rfl⟩
        obtain ⟨y, hye⟩ : ∃ y, y = m[k] := ⟨_, rfl⟩
        rw [← hxe] at f1 f2 f3 hts htn
        rw [← hye] at g1 g2 g3 hts htn
        have T1 := Lib.hid hts; have T2 := Lib.hid htn
        clear hl hm hall hx hy hts htn hxe hye hkl hkm
        obtain ⟨x1, x2, x3⟩ := x
        obtain ⟨y1, y2, y3⟩ := y
        dsimp only at f1 f2 f3 g1 g2 g3
        by_cases h1 : x1 = y1
        · by_cases h2 : x2 = y2
          · by_cases h3 : x3 = y3
            · subst h1 h2 h3
              go_wp2
              go_quiet (fail)
              go_wp2
              go_roundw
              case rel => exact ⟨k + 1, by omega, by go_num, T1.out (by simp), _, rfl⟩
              case measure => simp [intOf]; omega
            · subst h1 h2
              go_wp2
              go_quiet (fail)
              go_wp2
              go_ret
              exact ⟨ret_bool (by have := T2.out (by simp [h3]); simp [tmsEq, this]), (by repeat (first | exact Below.refl _ _ | assumption | (with_reducible exact Env.below (by assumption)) | (with_reducible refine below_new ?_ _) | (with_reducible refine below_drew ?_) | (with_reducible refine below_drewN ?_ _) | (with_reducible refine below_put ?_ ?_ _; rotate_left 1; (dsimp only; omega)) | (refine below_then ?_ (by assumption))))⟩
          · subst h1
            go_wp2
            go_quiet (fail)
            go_wp2
            go_ret
            exact ⟨ret_bool (by have := T2.out (by simp [h2]); simp [tmsEq, this]), (by repeat (first | exact Below.refl _ _ | assumption | (with_reducible exact Env.below (by assumption)) | (with_reducible refine below_new ?_ _) | (with_reducible refine below_drew ?_) | (with_reducible refine below_drewN ?_ _) | (with_reducible refine below_put ?_ ?_ _; rotate_left 1; (dsimp only; omega)) | (refine below_then ?_ (by assumption))))⟩
        · go_wp2
          go_quiet (fail)
          go_wp2
          go_ret
          exact ⟨ret_bool (by have := T2.out (by simp [h1]); simp [tmsEq, this]), (by repeat (first | exact Below.refl _ _ | assumption | (with_reducible exact Env.below (by assumption)) | (with_reducible refine below_new ?_ _) | (with_reducible refine below_drew ?_) | (with_reducible refine below_drewN ?_ _) | (with_reducible refine below_put ?_ ?_ _; rotate_left 1; (dsimp only; omega)) | (refine below_then ?_ (by assumption))))⟩
      · have hkn : k = n := by omega
        rw [hkn] at hall
        rw [List.take_of_length_le (by have := hl'.out; omega), List.take_of_length_le (by have := hm'.out; omega)] at hall
        have H := Lib.hid hall
        clear hall hkn
        go_wp2
        go_ret
        exact ⟨ret_bool (by simp [tmsEq, H.out]), (by repeat (first | exact Below.refl _ _ | assumption | (with_reducible exact Env.below (by assumption)) | (with_reducible refine below_new ?_ _) | (with_reducible refine below_drew ?_) | (with_reducible refine below_drewN ?_ _) | (with_reducible refine below_put ?_ ?_ _; rotate_left 1; (dsimp only; omega)) | (refine below_then ?_ (by assumption))))⟩
  · have h1 : ((l.length : Int) != (m.length : Int)) = true := by simp; omega
    have H := Lib.hid hlen
    clear hlen
    go_enter Try.func25, Try.ntmps25
    go_wp2
    go_ret
    exact ⟨ret_bool (by have : ¬ l = m := fun e => H.out (by rw [e]); simp [tmsEq, this]), (by repeat (first | exact Below.refl _ _ | assumption | (with_reducible exact Env.below (by assumption)) | (with_reducible refine below_new ?_ _) | (with_reducible refine below_drew ?_) | (with_reducible refine below_drewN ?_ _) | (with_reducible refine below_put ?_ ?_ _; rotate_left 1; (dsimp only; omega)) | (refine below_then ?_ (by assumption))))⟩
end Go.Proofs.Ytffehibdeogjeaa

/- The contracts of the timers' functions that copy and exchange (chapter 18): room, swapped. Condition: lists of at most 2^40 timers. -/
namespace Go.Proofs.Ytffehibdeogjeaa
open Go.RowKit

theorem tm_info : (Try.prog.info? 34).map (fun i => (i.zero, i.size, i.bytes)) = some (some (.agg #[.int .i64 0, .int .i64 0, .int .i64 0]), 3, 24) := by kernel_rfl
theorem tenc_len (x : Tm) : (tenc x).length = 3 := rfl
theorem tenc_one (l : List Tm) : ∀ u ∈ l.flatMap tenc, u.oneCell' = true := by
  intro u hu
  obtain ⟨x, _, hx⟩ := List.mem_flatMap.1 hu
  simp [tenc] at hx
  rcases hx with rfl | rfl | rfl <;> rfl
set_option maxHeartbeats 2000000 in
set_option maxRecDepth 100000 in
theorem room_any (A : Option Addr) (c : Nat) (l : List Tm) (w : World) (hn : l.length ≤ 1099511627776) (hr : Rd tenc 3 w w.heap.size A l) :
    Calls Try.prog 72 #[.slice A l.length c] w fun e w' => ∃ g, e = .returned (.slice (some ⟨g, 0, none⟩) l.length (l.length + 1)) ∧ Own tenc 3 w' w.heap.size 34 (.slice (some ⟨g, 0, none⟩) l.length (l.length + 1)) l ∧ Below w.heap.size w w' := by
  obtain ⟨i0, hi0, hz0, hz1, hz2⟩ := info_parts tm_info
  obtain ⟨n, hn'⟩ : ∃ n, n = l.length := ⟨_, rfl⟩
  rw [← hn'] at hn ⊢
  have HN := Lib.hid hn'
  clear hn'
  cases A with
  | none =>
    have hl : l = [] := by
      rcases List.eq_nil_or_concat l with h | ⟨l', x, h⟩
      · exact h
      · obtain ⟨_, _, e, _⟩ := hr (by rw [h]; simp)
        cases e
    obtain rfl : n = 0 := by rw [HN.out, hl]; rfl
    subst hl
    go_enter Try.func72, Try.ntmps72
    go_wp2_with (first
      | (at_make; refine wpList_make_part _ rfl _ _ _ rfl 34 i0 (.agg #[.int .i64 0, .int .i64 0, .int .i64 0]) Try.underlying22 hi0 hz0 .i64 .i64 0 1 rfl rfl (by omega) (by rw [hz2]; omega) (by unfold maxLen; omega) ?_; rw [hz1])
      | (with_reducible refine wpList_copy_none rfl (.tmp 10) (.tmp 11) 22 22 rfl 34 Try.underlying22 3 (by rw [hi0]; simp [hz1]) w.heap.size 0 1 c rfl rfl ?_))
    go_ret
    refine ⟨w.heap.size, rfl, ?_, (by repeat (first | exact Below.refl _ _ | assumption | (with_reducible exact Env.below (by assumption)) | (with_reducible refine below_new ?_ _) | (with_reducible refine below_drew ?_) | (with_reducible refine below_drewN ?_ _) | (with_reducible refine below_put ?_ ?_ _; rotate_left 1; (dsimp only; omega)) | (refine below_then ?_ (by assumption))))⟩
    exact ⟨rfl, .inr ⟨w.heap.size, 1, _, rfl, Nat.le_refl _, heap_alloc_new w _, by simp, by simp [maxLen], by rw [size_madeCells], by simp⟩⟩
  | some ad =>
    have hflat : ∀ j u, (l.flatMap tenc)[j]? = some u → (w.alloc (.cells (madeCells #[.int .i64 0, .int .i64 0, .int .i64 0] ((n + 1) * 3)) 34)).cell? (ad.add j) = some u := by
      intro j u hj
      have hl : l ≠ [] := by rintro rfl; simp at hj
      obtain ⟨b, off, e, hb, _⟩ := hr hl
      injection e with e; subst e
      exact (Below.cell (p := (⟨b, off, none⟩ : Addr).add j) ((Below.refl w.heap.size w).alloc (Nat.le_refl _) _) (by unfold Addr.add; split <;> simpa using hb)).trans (rd_flat tenc_len hr j u hj)
    have hfl := flat_length tenc_len l
    have HF := Lib.hid hflat
    have HL := Lib.hid hfl
    clear hflat hfl
    go_enter Try.func72, Try.ntmps72
    go_wp2_with (first
      | (at_make; refine wpList_make_part _ rfl _ _ _ rfl 34 i0 (.agg #[.int .i64 0, .int .i64 0, .int .i64 0]) Try.underlying22 hi0 hz0 .i64 .i64 n (n + 1) rfl rfl (by omega) (by rw [hz2]; omega) (by unfold maxLen; omega) ?_; rw [hz1])
      | (with_reducible refine wpList_copy_cells rfl (.tmp 10) (.tmp 11) 22 22 rfl 34 Try.underlying22 3 (by rw [hi0]; simp [hz1]) w.heap.size n (n + 1) ad n c rfl rfl _ 34 (heap_alloc_new w _) (l.flatMap tenc) (by rw [HL.out, ← HN.out, show Nat.min n n = n from Nat.min_self n]) HF.out (by rw [HL.out, size_madeCells, ← HN.out]; omega) (tenc_one l) ?_; intro w1 hw1))
    go_ret
    refine ⟨w.heap.size, rfl, ?_, by rw [hw1.out]; exact below_setRow (by repeat (first | exact Below.refl _ _ | assumption | (with_reducible exact Env.below (by assumption)) | (with_reducible refine below_new ?_ _) | (with_reducible refine below_drew ?_) | (with_reducible refine below_drewN ?_ _) | (with_reducible refine below_put ?_ ?_ _; rotate_left 1; (dsimp only; omega)) | (refine below_then ?_ (by assumption)))) (Nat.le_refl _) _⟩
    have := own_copied (enc := tenc) (sz := 3) tenc_len (w.alloc (.cells (madeCells #[.int .i64 0, .int .i64 0, .int .i64 0] ((n + 1) * 3)) 34)) w.heap.size 34 l _ w.heap.size (n + 1) (heap_alloc_new w _) (Nat.le_refl _) (size_madeCells _ _) (by rw [← HN.out]; omega) (by unfold maxLen; omega)
    rw [← HN.out] at this
    rw [hw1.out]
    exact this
end Go.Proofs.Ytffehibdeogjeaa

/- The contract of the reference's swapped (chapter 18). Condition: lists of at most 2^40 timers. -/
namespace Go.Proofs.Ytffehibdeogjeaa
open Go.RowKit

theorem wpList_append_list {P : Program} {w : World} {ops : Array Oper} {rest : List Oper} {o : Oper} {a : Act} {Q : Exit → Act → World → Prop} (hgd : o.guard = none) (s x : Operand) (t : TypeId)
    (ho : o.op = .call { callee := .builtin .append, args := #[s, x], argTypes := #[t, t] })
    (base : Nat) (e : TypeId) (i : TypeInfo) (z : Value) (size bytes : Nat) (ht : P.underlying t = some (.slice e)) (hi : P.info? e = some i) (hz : i.zero = some z)
    (hsize : i.size = size) (hby : i.bytes = bytes) (hzs : z.cells.size = size) (hsz : 0 < size)
    {α : Type} (enc : α → List Value) (henc : ∀ y, (enc y).length = size) (v : Value) (l ys : List α) (hs : a.eval s = v) (hown : Own enc size w base e v l)
    (ad : Addr) (n c : Nat) (hx : a.eval x = .slice (some ad) n c) (hnl : ys.length = n) (hnews : ∀ j u, (ys.flatMap enc)[j]? = some u → w.cell? (ad.add j) = some u) (h1 : ∀ u ∈ ys.flatMap enc, u.oneCell' = true)
    (h63 : l.length + n ≤ maxLen) (hbytes : (l.length + n) * bytes ≤ 140737488355328) (hbase : base ≤ w.heap.size)
    (h : ∀ v' w', Own enc size w' base e v' (l ++ ys) → w.grownBy w' v.ownBlock → Below base w w' → wpList P ops Q rest (a.put o.dst v') w') : wpList P ops Q (o :: rest) a w :=
  wpList_append_own w hgd s x t ho base e i z size bytes ht hi hz hsize hby hzs hsz v l.length (l.flatMap enc) hs hown ad n c (ys.flatMap enc) hx (by rw [flat_length henc, hnl]) hnews h1 h63 hbytes hbase
    fun v' w' h2 h3 _ => h v' w' (by unfold Own; simpa [hnl] using h2) h3 (below_of_grown h3 (fun k hk => (World.ownsRow.lt hown k hk).1) hbase)

theorem own_tm {w : World} {base : Nat} {e : TypeId} {g n cap : Nat} {l : List Tm} (h : Own tenc 3 w base e (.slice (some ⟨g, 0, none⟩) n cap) l) {i : Nat} {x : Tm} (hx : l[i]? = some x) :
    w.cell? ⟨g, i * 3, none⟩ = some (.int .i64 x.s) ∧ w.cell? ⟨g, i * 3 + 1, none⟩ = some (.int .i64 x.e) ∧ w.cell? ⟨g, i * 3 + 2, none⟩ = some (.int .i64 x.k) ∧ g < w.heap.size := by
  obtain ⟨b, off, e, hb, c1, c2, c3⟩ := tm_cells (Own.rd (enc := tenc) (sz := 3) tenc_len h) hx
  simp only [Option.some.injEq, Addr.mk.injEq, and_true] at e
  obtain ⟨rfl, rfl⟩ := e
  simp only [Nat.zero_add] at c1 c2 c3
  exact ⟨c1, c2, c3, hb⟩
theorem own_frz {w : World} {base : Nat} {e : TypeId} {g n cap : Nat} {l : List Tm} (h : Own tenc 3 w base e (.slice (some ⟨g, 0, none⟩) n cap) l) (hn : n = l.length) : ∀ j, w.frozen? ⟨g, j, none⟩ = false := by
  subst hn
  exact fun j => World.ownsRow.frozenAt h j

set_option maxHeartbeats 4000000 in
set_option maxRecDepth 100000 in
theorem rswapped_any (A : Option Addr) (c : Nat) (l : List Tm) (i k : Nat) (w : World) (hi : i < l.length) (hk : k < l.length) (hik : i ≠ k) (hn : l.length ≤ 1099511627777) (hr : Rd tenc 3 w w.heap.size A l) :
    Calls Try.prog 105 #[.slice A l.length c, .int .i64 i, .int .i64 k] w fun e w' => ∃ v, e = .returned v ∧ Own tenc 3 w' w.heap.size 34 v (sw t0 l i k) ∧ Below w.heap.size w w' := by
  obtain ⟨i0, hi0, hz0, hz1, hz2⟩ := info_parts tm_info
  obtain ⟨n, hn'⟩ : ∃ n, n = l.length := ⟨_, rfl⟩
  have hx := List.getElem?_eq_getElem hi
  have hy := List.getElem?_eq_getElem hk
  obtain ⟨x, hxe⟩ : ∃ x, x = l[i] := ⟨_, rfl⟩
  obtain ⟨y, hye⟩ : ∃ y, y = l[k] := ⟨_, rfl⟩
  rw [← hxe] at hx
  rw [← hye] at hy
  have hsw : sw t0 l i k = (l.set i y).set k x := by unfold sw; rw [getD_some hx, getD_some hy]
  obtain ⟨b, off, rfl, hbB, f1, f2, f3⟩ := tm_cells hr hx
  obtain ⟨b', off', e', _, g1, g2, g3⟩ := tm_cells hr hy
  simp only [Option.some.injEq, Addr.mk.injEq, and_true] at e'
  obtain ⟨rfl, rfl⟩ := e'
  rw [← hn'] at hn hi hk ⊢
  have HN := Lib.hid hn'
  have HS := Lib.hid hsw
  have HX := Lib.hid hx
  have HY := Lib.hid hy
  have hflat := rd_flat tenc_len hr
  have HF := Lib.hid hflat
  clear hn' hx hy hxe hye hsw hflat
  have hmade := Own.made (enc := tenc) (sz := 3) tenc_len w w.heap.size 34 [] w.heap.size rfl (Nat.le_refl _) (by simp [maxLen])
  have HM := Lib.hid hmade
  clear hmade
  go_enter Try.func105, Try.ntmps105
  go_wp2_with (first
    | (at_builtin; refine wpList_append_list rfl (.tmp 8) (.tmp 9) 22 rfl w.heap.size 34 i0 (.agg #[.int .i64 0, .int .i64 0, .int .i64 0]) 3 24 Try.underlying22 hi0 hz0 hz1 hz2 rfl (by decide) tenc tenc_len (.slice (some ⟨w.heap.size, 0, none⟩) 0 0) [] l rfl HM.out ⟨b, off, none⟩ n c rfl HN.out.symm (fun j u hj => (Below.cell (p := (⟨b, off, none⟩ : Addr).add j) ((Below.refl w.heap.size w).alloc (Nat.le_refl _) _) (by unfold Addr.add; split <;> simpa using hbB)).trans (HF.out j u hj)) (tenc_one l) (by unfold maxLen; simp; omega) (by simp; omega) (by simp) ?_; intro v w1 hown hgrow hbel))
  have hb1 : Below w.heap.size w w1 := ((Below.refl w.heap.size w).alloc (Nat.le_refl _) _).trans hbel
  rw [List.nil_append] at hown
  obtain ⟨g, cap, rfl, hbg, hglt⟩ := World.ownsRow.form hown (by rw [← HN.out]; omega)
  obtain ⟨p1, p2, p3, -⟩ := own_tm hown HX.out
  obtain ⟨q1, q2, q3, -⟩ := own_tm hown HY.out
  have frz := own_frz hown rfl
  rw [← HN.out]
  have F1 := (hb1.cell (p := ⟨b, off + i * 3, none⟩) hbB).trans f1
  have F2 := (hb1.cell (p := ⟨b, off + i * 3 + 1, none⟩) hbB).trans f2
  have F3 := (hb1.cell (p := ⟨b, off + i * 3 + 2, none⟩) hbB).trans f3
  have G1 := (hb1.cell (p := ⟨b, off + k * 3, none⟩) hbB).trans g1
  have G2 := (hb1.cell (p := ⟨b, off + k * 3 + 1, none⟩) hbB).trans g2
  have G3 := (hb1.cell (p := ⟨b, off + k * 3 + 2, none⟩) hbB).trans g3
  have hgb : g ≠ b := by omega
  have i1 : (0 : Int) ≤ (i : Int) := by omega
  have i2 : (i : Int) < (n : Int) := by omega
  have i3 : (0 : Int) ≤ (k : Int) := by omega
  have i4 : (k : Int) < (n : Int) := by omega
  clear f1 f2 f3 g1 g2 g3 hr
  go_region
  all_goals
    go_wp2
    go_ret
    refine ⟨.slice (some ⟨g, 0, none⟩) n cap, rfl, ?_, (by repeat (first | with_reducible exact Below.refl _ _ | with_reducible assumption | (with_reducible exact Env.below (by assumption)) | (with_reducible refine below_new ?_ _) | (with_reducible refine below_drew ?_) | (with_reducible refine below_drewN ?_ _) | (with_reducible refine below_put ?_ ?_ _; rotate_left 1; (dsimp only; omega)) | (with_reducible refine below_then ?_ (by assumption))))⟩
    have h1 := (Own.set tenc_len hown rfl i (by rw [← HN.out]; exact hi) y).1
    have h2 := (Own.set tenc_len h1 (by simp) k (by simp; rw [← HN.out]; exact hk) x).1
    rw [HS.out, HN.out]
    exact own_drew h2
end Go.Proofs.Ytffehibdeogjeaa

/- The contract of the reference's Pushed (chapter 18): in the making. -/
namespace Go.Proofs.Ytffehibdeogjeaa
open Go.RowKit

theorem step_append_list {P : Program} {w : World} {ops : Array Oper} {o : Oper} {a : Act} {K : Act → World → Prop} {Q : Exit → Act → World → Prop} {E : Prop} (hgd : o.guard = none) (s x : Operand) (t : TypeId)
    (ho : o.op = .call { callee := .builtin .append, args := #[s, x], argTypes := #[t, t] })
    (base : Nat) (e : TypeId) (i : TypeInfo) (z : Value) (size bytes : Nat) (ht : P.underlying t = some (.slice e)) (hi : P.info? e = some i) (hz : i.zero = some z)
    (hsize : i.size = size) (hby : i.bytes = bytes) (hzs : z.cells.size = size) (hsz : 0 < size)
    {α : Type} (enc : α → List Value) (henc : ∀ y, (enc y).length = size) (v : Value) (l ys : List α) (hs : a.eval s = v) (hown : Own enc size w base e v l)
    (ad : Addr) (n c : Nat) (hx : a.eval x = .slice (some ad) n c) (hnl : ys.length = n) (hnews : ∀ j u, (ys.flatMap enc)[j]? = some u → w.cell? (ad.add j) = some u) (h1 : ∀ u ∈ ys.flatMap enc, u.oneCell' = true)
    (h63 : l.length + n ≤ maxLen) (hbytes : (l.length + n) * bytes ≤ 140737488355328) (hbase : base ≤ w.heap.size)
    (h : ∀ v' w', Own enc size w' base e v' (l ++ ys) → w.grownBy w' v.ownBlock → Below base w w' → K (a.put o.dst v') w') :
    if Region.wanted o (yielded ops a.tmps) = true then Oper.wp P o a w K Q else E := by
  have hw : Region.wanted o (yielded ops a.tmps) = true := by simp [Region.wanted, hgd]
  rw [if_pos hw]
  obtain ⟨v', w', hrun, r1, r2, _⟩ := run_append_own (P := P) w base t o.type e i z size bytes ht hi hz hsize hby hzs hsz v l.length (l.flatMap enc) hown ad n c (ys.flatMap enc) (by rw [flat_length henc, hnl]) hnews h1 h63 hbytes hbase
  unfold Oper.wp
  simp [execOp, ho, resolve, invoke, builtin, hs, hx, hrun, Result.andThen]
  exact h v' w' (by unfold Own; simpa [hnl] using r1) r2 (below_of_grown r2 (fun k hk => (World.ownsRow.lt hown k hk).1) hbase)

theorem tm_new (w : World) (x : Tm) (t : TypeId) (g : Nat) (hg : g = w.heap.size) : ∀ j u, ([x].flatMap tenc)[j]? = some u → (w.alloc (.cells #[.int .i64 x.s, .int .i64 x.e, .int .i64 x.k] t)).cell? ((⟨g, 0, none⟩ : Addr).add j) = some u := by
  subst hg
  intro j u hj
  match j, hj with
  | 0, hj => simp [tenc] at hj; subst hj; simp [Addr.add]
  | 1, hj => simp [tenc] at hj; subst hj; simp [Addr.add]
  | 2, hj => simp [tenc] at hj; subst hj; simp [Addr.add]
theorem tm_far {W w1 : World} {row : Option Nat} {g : Nat} {x : List Value} (hg : W.grownBy w1 row) (h : ∀ j u, x[j]? = some u → W.cell? ((⟨g, 0, none⟩ : Addr).add j) = some u) (hlt : g < W.heap.size) (hne : some g ≠ row) :
    ∀ j u, x[j]? = some u → w1.cell? ((⟨g, 0, none⟩ : Addr).add j) = some u := fun j u hj => by
  have e : ((⟨g, 0, none⟩ : Addr).add j).block = g := by unfold Addr.add; split <;> rfl
  exact (hg.cell_far _ (by rw [e]; exact hlt) (by rw [e]; exact hne)).trans (h j u hj)
theorem rswapped_len (A : Option Addr) (c n : Nat) (l : List Tm) (i k : Nat) (w : World) (hl : l.length = n) (hi : i < n) (hk : k < n) (hik : i ≠ k) (hn : n ≤ 1099511627777) (hr : Rd tenc 3 w w.heap.size A l) :
    Calls Try.prog 105 #[.slice A n c, .int .i64 i, .int .i64 k] w fun e w' => ∃ v, e = .returned v ∧ Own tenc 3 w' w.heap.size 34 v (sw t0 l i k) ∧ Below w.heap.size w w' := by
  subst hl; exact rswapped_any A c l i k w hi hk hik hn hr
theorem up_stop {α : Type} {lt : α → α → Bool} {d : α} (m : Nat) (l : List α) {i : Nat} (h : ¬ (0 < i ∧ lt (l.getD i d) (l.getD ((i - 1) / 2) d) = true)) : up lt d m l i = l := by
  cases m with
  | zero => rfl
  | succ m => unfold up; rw [if_neg h]
theorem up_step {α : Type} {lt : α → α → Bool} {d : α} {m : Nat} {l : List α} {i : Nat} (h0 : 0 < i) (hm : i ≤ m) (h : lt (l.getD i d) (l.getD ((i - 1) / 2) d) = true) :
    ∃ m', up lt d m l i = up lt d m' (sw d l i ((i - 1) / 2)) ((i - 1) / 2) ∧ (i - 1) / 2 ≤ m' := by
  cases m with
  | zero => omega
  | succ m => exact ⟨m, by rw [up, if_pos ⟨h0, h⟩], by omega⟩

set_option maxHeartbeats 8000000 in
set_option maxRecDepth 100000 in
theorem rpushed_any (b off c : Nat) (l : List Tm) (t : Tm) (w : World) (hn : l.length ≤ 1099511627776) (hbB : b < w.heap.size) (hr : Rd tenc 3 w w.heap.size (some ⟨b, off, none⟩) l) :
    Calls Try.prog 77 #[.slice (some ⟨b, off, none⟩) l.length c, .agg #[.int .i64 t.s, .int .i64 t.e, .int .i64 t.k]] w fun e w' => ∃ v, e = .returned v ∧ Own tenc 3 w' w.heap.size 34 v (pushL tlt t0 l t) ∧ Below w.heap.size w w' := by
  obtain ⟨i0, hi0, hz0, hz1, hz2⟩ := info_parts tm_info
  obtain ⟨n, hn'⟩ : ∃ n, n = l.length := ⟨_, rfl⟩
  rw [← hn'] at hn ⊢
  have HN := Lib.hid hn'
  clear hn'
  have hL := (Loc.nil w).new [.int .i64 t.s, .int .i64 t.e, .int .i64 t.k] 34
  obtain ⟨lE, hE, hR⟩ := Env.abs (w0 := w) (below_new (Below.refl _ _) _) hL
  (repeat unfold Loc at hR)
  have hflat : ∀ X, Env w lE X → ∀ j u, (l.flatMap tenc)[j]? = some u → X.cell? ((⟨b, off, none⟩ : Addr).add j) = some u := fun X hX j u hj =>
    (hX.1.cell (p := (⟨b, off, none⟩ : Addr).add j) (by unfold Addr.add; split <;> simpa using hbB)).trans (rd_flat tenc_len hr j u hj)
  have HF := Lib.hid hflat
  clear hflat
  go_enter Try.func77, Try.ntmps77
  go_wp2_with fail
  refine wp_region_held_drew (S := Env w lE) (by kernel_rfl) (by (first | assumption | exact Env.step (by assumption) (by assumption) | exact Env.old (by assumption) _ | exact Env.drew hE | exact hE | exact Env.drew (by assumption) | exact Env.drew (Env.old (by assumption) _) | ((repeat first | refine Env.far0 ?_ (by assumption) _ | refine Env.far1 ?_ (by assumption) _ | refine Env.farA ?_ (by assumption) _); assumption))) (fun hHeld => ?_)
  refine hTake 1 (by kernel_rfl) (by kernel_rfl) (by kernel_rfl) (by decide) (by assumption) ?_; (intro oi hoi; simp only [List.getElem?_toArray, List.getElem?_cons_succ, List.getElem?_cons_zero] at hoi; obtain rfl := Option.some.inj hoi; clear hoi); refine ⟨rfl, ?_⟩; apply Exists.intro; refine ⟨?_, fun _ _ _ h => h, ?_⟩; (intro w hSw; (try dsimp only at hSw); go_simp; (try with_reducible rfl)); (try simp only [Act.put, List.setIfInBounds_toArray, List.set_cons_zero, List.set_cons_succ]); refine hTake 3 (by kernel_rfl) (by kernel_rfl) (by kernel_rfl) (by decide) (by assumption) ?_; (intro oi hoi; simp only [List.getElem?_toArray, List.getElem?_cons_succ, List.getElem?_cons_zero] at hoi; obtain rfl := Option.some.inj hoi; clear hoi); refine ⟨rfl, ?_⟩; apply Exists.intro; refine ⟨?_, fun _ _ _ h => h, ?_⟩; (intro w hSw; (try dsimp only at hSw); go_simp; (try with_reducible rfl)); (try simp only [Act.put, List.setIfInBounds_toArray, List.set_cons_zero, List.set_cons_succ])
  refine wpAnyH_ready (rs := [0, 4]) (by kernel_rfl) (by simp) ?_
  refine hCons 0 (by decide) ?_ (hCons 4 (by decide) ?_ AllReadyH.nil)
  · (intro oi hoi; simp only [List.getElem?_toArray, List.getElem?_cons_zero] at hoi; obtain rfl := Option.some.inj hoi; clear hoi); intro K hK
    go_simp
    (refine hK.out _ _ (by (first | assumption | exact Env.step (by assumption) (by assumption) | exact Env.old (by assumption) _ | exact Env.drew hE | exact hE | exact Env.drew (by assumption) | exact Env.drew (Env.old (by assumption) _) | ((repeat first | refine Env.far0 ?_ (by assumption) _ | refine Env.far1 ?_ (by assumption) _ | refine Env.farA ?_ (by assumption) _); assumption))) (fun hHeld => ?_); clear hK K; (try simp only [Act.put, List.setIfInBounds_toArray, List.set_cons_zero, List.set_cons_succ]))
    refine wpAnyH_ready (rs := [2, 4]) (by kernel_rfl) (by simp) ?_
    refine hCons 2 (by decide) ?_ (hCons 4 (by decide) ?_ AllReadyH.nil)
    · (intro oi hoi; simp only [List.getElem?_toArray, List.getElem?_cons_succ, List.getElem?_cons_zero] at hoi; obtain rfl := Option.some.inj hoi; clear hoi); intro K hK
      refine step_append_list rfl (.tmp 8) (.tmp 9) 22 rfl (w.heap.size + 1) 34 i0 (.agg #[.int .i64 0, .int .i64 0, .int .i64 0]) 3 24 Try.underlying22 hi0 hz0 hz1 hz2 rfl (by decide) tenc tenc_len (.slice (some ⟨w.heap.size + 1, 0, none⟩) 0 0) [] l rfl (own_empty (by have h := heap_alloc_new (w.alloc (.cells #[.int .i64 t.s, .int .i64 t.e, .int .i64 t.k] 34)) (.cells #[] 34); rw [World.size_alloc] at h; exact h) (by omega)) ⟨b, off, none⟩ n c rfl HN.out.symm (fun j u hj => HF.out _ (by assumption) j u hj) (tenc_one l) (by unfold maxLen; simp; omega) (by first | omega | (simp <;> omega)) (by first | omega | (simp <;> omega)) ?_
      intro v w1 hown hgrow hbel
      have hE1 := Env.kept hE (by assumption) (by rw [World.size_alloc]; exact hbel)
      have hs1 := hbel.size
      simp at hs1
      rw [List.nil_append] at hown
      clear hgrow
      refine hK.out _ _ hE1 (fun hHeld => ?_)
      clear hK K
      (try simp only [Act.put, List.setIfInBounds_toArray, List.set_cons_zero, List.set_cons_succ])
      refine hOnly 4 (by kernel_rfl) (by decide) ?_; (intro oi hoi; simp only [List.getElem?_toArray, List.getElem?_cons_succ, List.getElem?_cons_zero] at hoi; obtain rfl := Option.some.inj hoi; clear hoi); intro K hK; go_simp
      (refine hK.out _ _ (by (first | assumption | exact Env.step (by assumption) (by assumption) | exact Env.old (by assumption) _ | exact Env.drew hE | exact hE | exact Env.drew (by assumption) | exact Env.drew (Env.old (by assumption) _) | ((repeat first | refine Env.far0 ?_ (by assumption) _ | refine Env.far1 ?_ (by assumption) _ | refine Env.farA ?_ (by assumption) _); assumption))) (fun hHeld => ?_); clear hK K; (try simp only [Act.put, List.setIfInBounds_toArray, List.set_cons_zero, List.set_cons_succ]))
      refine wpAnyH_ready (rs := [5]) (by kernel_rfl) (by simp) ?_
      refine hCons 5 (by decide) ?_ AllReadyH.nil
      (intro oi hoi; simp only [List.getElem?_toArray, List.getElem?_cons_succ, List.getElem?_cons_zero] at hoi; obtain rfl := Option.some.inj hoi; clear hoi); intro K hK
      refine step_append_list rfl (.tmp 10) (.tmp 12) 22 rfl (w.heap.size + 1) 34 i0 (.agg #[.int .i64 0, .int .i64 0, .int .i64 0]) 3 24 Try.underlying22 hi0 hz0 hz1 hz2 rfl (by decide) tenc tenc_len v l [t] rfl (hown.alloc _) ⟨w1.heap.size, 0, none⟩ 1 1 rfl rfl (tm_new _ _ _ _ rfl) (tenc_one [t]) (by rw [← HN.out]; unfold maxLen; omega) (by rw [← HN.out]; omega) (by first | omega | (simp <;> omega)) ?_
      intro v2 w2 hown2 hgrow2 hbel2
      have hE2 := Env.kept hE (by assumption) (by rw [World.size_alloc]; exact hbel2)
      clear hgrow2
      refine hK.out _ _ hE2 (fun hHeld => ?_)
      clear hK K
      (try simp only [Act.put, List.setIfInBounds_toArray, List.set_cons_zero, List.set_cons_succ])
      refine hTake 6 (by kernel_rfl) (by kernel_rfl) (by kernel_rfl) (by decide) (by assumption) ?_; (intro oi hoi; simp only [List.getElem?_toArray, List.getElem?_cons_succ, List.getElem?_cons_zero] at hoi; obtain rfl := Option.some.inj hoi; clear hoi); refine ⟨rfl, ?_⟩; apply Exists.intro; refine ⟨?_, fun _ _ _ h => h, ?_⟩; (intro w hSw; (try dsimp only at hSw); go_simp; (try with_reducible rfl)); (try simp only [Act.put, List.setIfInBounds_toArray, List.set_cons_zero, List.set_cons_succ])
      refine wpAnyH_done (by kernel_rfl) ?_ _
      have hb2 := hE2.1
      clear hown hE1 hE2 hs1
      try clear hbel hbel2
      (try clear htm)
      clear HF hL hE hR hr
      have hown3 := hown2.mono (base' := w.heap.size) (by omega)
      have hlen : (l ++ [t]).length = n + 1 := by simp [HN.out]
      have HLEN := Lib.hid hlen
      clear hlen hown2
      go_wp2_with fail
      go_loopw [5, 6] (fun v i wr => ∃ (m i' : Nat) (l' : List Tm), i = .int .i64 i' ∧ i' ≤ m ∧ l'.length = n + 1 ∧ i' < n + 1 ∧ up tlt t0 m l' i' = pushL tlt t0 l t ∧ Own tenc 3 wr w.heap.size 34 v l' ∧ Below w.heap.size w wr) (fun _ i _ => (intOf i).toNat)
      case atStart => exact ⟨n, n, l ++ [t], rfl, Nat.le_refl _, HLEN.out, by omega, by rw [HN.out]; rfl, hown3, hb2⟩
      case round =>
        obtain ⟨m, i', l', rfl, him, hll, hin, hup, hown, hb⟩ := hrel
        clear hown3 hb2
        have HLL := Lib.hid hll
        have HUP := Lib.hid hup
        clear hll hup
        by_cases hi0' : i' = 0
        · have hz : up tlt t0 m l' i' = l' := up_stop _ _ (by omega)
          have HZ := Lib.hid hz
          clear hz
          subst hi0'
          rw [show ((0 : Nat) : Int) = 0 from rfl]
          go_wp2
          go_ret
          exact ⟨_, rfl, by rw [← HUP.out, HZ.out]; exact hown, hb⟩
        · obtain ⟨p, hp⟩ : ∃ p, p = (i' - 1) / 2 := ⟨_, rfl⟩
          have hpe : ((i' : Int) - 1) / 2 = (p : Int) := by omega
          have hpi : p < i' := by omega
          have j1 : (0 : Int) ≤ (i' : Int) := by omega
          have j2 : (i' : Int) < (n : Int) + 1 := by omega
          have j3 : (0 : Int) ≤ (p : Int) := by omega
          have j4 : (p : Int) < (n : Int) + 1 := by omega
          have HP := Lib.hid hp
          clear hp
          obtain ⟨x, hx⟩ : ∃ x, l'[i']? = some x := ⟨_, List.getElem?_eq_getElem (by rw [HLL.out]; exact hin)⟩
          obtain ⟨y, hy⟩ : ∃ y, l'[p]? = some y := ⟨_, List.getElem?_eq_getElem (by rw [HLL.out]; omega)⟩
          obtain ⟨g, cap, rfl, hbg, hglt⟩ := World.ownsRow.form hown (by rw [HLL.out]; omega)
          obtain ⟨p1, p2, p3, -⟩ := own_tm hown hx
          obtain ⟨q1, q2, q3, -⟩ := own_tm hown hy
          have GX := Lib.hid (getD_some (d := t0) hx)
          have GY := Lib.hid (getD_some (d := t0) hy)
          have hE : Env wr [] wr := ⟨Below.refl _ _, trivial⟩
          have hR : ∀ X, Env wr [] X → X.cell? ⟨g, i' * 3, none⟩ = some (.int .i64 x.s) ∧ X.cell? ⟨g, i' * 3 + 1, none⟩ = some (.int .i64 x.e) ∧ X.cell? ⟨g, i' * 3 + 2, none⟩ = some (.int .i64 x.k) ∧
              X.cell? ⟨g, p * 3, none⟩ = some (.int .i64 y.s) ∧ X.cell? ⟨g, p * 3 + 1, none⟩ = some (.int .i64 y.e) ∧ X.cell? ⟨g, p * 3 + 2, none⟩ = some (.int .i64 y.k) := fun X hX =>
            ⟨(hX.1.cell (p := ⟨g, i' * 3, none⟩) hglt).trans p1, (hX.1.cell (p := ⟨g, i' * 3 + 1, none⟩) hglt).trans p2, (hX.1.cell (p := ⟨g, i' * 3 + 2, none⟩) hglt).trans p3,
              (hX.1.cell (p := ⟨g, p * 3, none⟩) hglt).trans q1, (hX.1.cell (p := ⟨g, p * 3 + 1, none⟩) hglt).trans q2, (hX.1.cell (p := ⟨g, p * 3 + 2, none⟩) hglt).trans q3⟩
          rw [HLL.out]
          clear p1 p2 p3 q1 q2 q3 hx hy
          by_cases hlt : tlt x y = true
          · go_wp2
            refine wp_region_held_drew (S := Env wr []) (by kernel_rfl) (by (first | assumption | exact Env.step (by assumption) (by assumption) | exact Env.old (by assumption) _ | exact Env.drew hE | exact hE | exact Env.drew (by assumption) | exact Env.drew (Env.old (by assumption) _) | ((repeat first | refine Env.far0 ?_ (by assumption) _ | refine Env.far1 ?_ (by assumption) _ | refine Env.farA ?_ (by assumption) _); assumption))) (fun hHeld => ?_)
            refine hTake 0 (by kernel_rfl) (by kernel_rfl) (by kernel_rfl) (by decide) (by assumption) ?_; (intro oi hoi; simp only [List.getElem?_toArray, List.getElem?_cons_zero] at hoi; obtain rfl := Option.some.inj hoi; clear hoi); refine ⟨rfl, ?_⟩; apply Exists.intro; refine ⟨?_, fun _ _ _ h => h, ?_⟩; (intro w hSw; (try dsimp only at hSw); go_simp; (try with_reducible rfl)); (try simp only [Act.put, List.setIfInBounds_toArray, List.set_cons_zero, List.set_cons_succ]); refine hTake 1 (by kernel_rfl) (by kernel_rfl) (by kernel_rfl) (by decide) (by assumption) ?_; (intro oi hoi; simp only [List.getElem?_toArray, List.getElem?_cons_succ, List.getElem?_cons_zero] at hoi; obtain rfl := Option.some.inj hoi; clear hoi); refine ⟨rfl, ?_⟩; apply Exists.intro; refine ⟨?_, fun _ _ _ h => h, ?_⟩; (intro w hSw; (try dsimp only at hSw); go_simp; (try with_reducible rfl)); (try simp only [Act.put, List.setIfInBounds_toArray, List.set_cons_zero, List.set_cons_succ]); refine hTake 2 (by kernel_rfl) (by kernel_rfl) (by kernel_rfl) (by decide) (by assumption) ?_; (intro oi hoi; simp only [List.getElem?_toArray, List.getElem?_cons_succ, List.getElem?_cons_zero] at hoi; obtain rfl := Option.some.inj hoi; clear hoi); refine ⟨rfl, ?_⟩; apply Exists.intro; refine ⟨?_, fun _ _ _ h => h, ?_⟩; (intro w hSw; (try dsimp only at hSw); go_simp; (try with_reducible rfl)); (try simp only [Act.put, List.setIfInBounds_toArray, List.set_cons_zero, List.set_cons_succ]); refine hTake 3 (by kernel_rfl) (by kernel_rfl) (by kernel_rfl) (by decide) (by assumption) ?_; (intro oi hoi; simp only [List.getElem?_toArray, List.getElem?_cons_succ, List.getElem?_cons_zero] at hoi; obtain rfl := Option.some.inj hoi; clear hoi); refine ⟨rfl, ?_⟩; apply Exists.intro; refine ⟨?_, fun _ _ _ h => h, ?_⟩; (intro w hSw; (try dsimp only at hSw); go_simp; (try with_reducible rfl)); (try simp only [Act.put, List.setIfInBounds_toArray, List.set_cons_zero, List.set_cons_succ]); refine hTake 4 (by kernel_rfl) (by kernel_rfl) (by kernel_rfl) (by decide) (by assumption) ?_; (intro oi hoi; simp only [List.getElem?_toArray, List.getElem?_cons_succ, List.getElem?_cons_zero] at hoi; obtain rfl := Option.some.inj hoi; clear hoi); refine ⟨rfl, ?_⟩; apply Exists.intro; refine ⟨?_, fun _ _ _ h => h, ?_⟩; (intro w hSw; (try dsimp only at hSw); go_simp; (try with_reducible rfl)); (try simp only [Act.put, List.setIfInBounds_toArray, List.set_cons_zero, List.set_cons_succ]); refine hTake 5 (by kernel_rfl) (by kernel_rfl) (by kernel_rfl) (by decide) (by assumption) ?_; (intro oi hoi; simp only [List.getElem?_toArray, List.getElem?_cons_succ, List.getElem?_cons_zero] at hoi; obtain rfl := Option.some.inj hoi; clear hoi); refine ⟨rfl, ?_⟩; apply Exists.intro; refine ⟨?_, fun _ _ _ h => h, ?_⟩; (intro w hSw; (try dsimp only at hSw); go_simp; (try with_reducible rfl)); (try simp only [Act.put, List.setIfInBounds_toArray, List.set_cons_zero, List.set_cons_succ]); refine hTake 6 (by kernel_rfl) (by kernel_rfl) (by kernel_rfl) (by decide) (by assumption) ?_; (intro oi hoi; simp only [List.getElem?_toArray, List.getElem?_cons_succ, List.getElem?_cons_zero] at hoi; obtain rfl := Option.some.inj hoi; clear hoi); refine ⟨rfl, ?_⟩; apply Exists.intro; refine ⟨?_, fun _ _ _ h => h, ?_⟩; (intro w hSw; (try dsimp only at hSw); go_simp; (try with_reducible rfl)); (try simp only [Act.put, List.setIfInBounds_toArray, List.set_cons_zero, List.set_cons_succ]); refine hTake 7 (by kernel_rfl) (by kernel_rfl) (by kernel_rfl) (by decide) (by assumption) ?_; (intro oi hoi; simp only [List.getElem?_toArray, List.getElem?_cons_succ, List.getElem?_cons_zero] at hoi; obtain rfl := Option.some.inj hoi; clear hoi); refine ⟨rfl, ?_⟩; apply Exists.intro; refine ⟨?_, fun _ _ _ h => h, ?_⟩; (intro w hSw; (try dsimp only at hSw); go_simp; (try with_reducible rfl)); (try simp only [Act.put, List.setIfInBounds_toArray, List.set_cons_zero, List.set_cons_succ])
            refine hOnly 8 (by kernel_rfl) (by decide) ?_; (intro oi hoi; simp only [List.getElem?_toArray, List.getElem?_cons_succ, List.getElem?_cons_zero] at hoi; obtain rfl := Option.some.inj hoi; clear hoi); intro K hK; go_simp
            go_at_call 29
            refine (rtless_any x y _).mono ?_
            rintro e w3 ⟨rfl, hb3⟩
            have hEhb3 := Env.step hb3 (by assumption); (try (have hqhb3 := (by with_reducible first | exact Loc.below hb3 (Loc.new (Loc.nil _) _ _) | exact Loc.below hb3 (Loc.drew (Loc.new (Loc.nil _) _ _)) | exact Loc.below hb3 (by assumption : Loc _ [_])); (repeat rw [World.size_drew] at hqhb3); (repeat rw [World.size_alloc] at hqhb3); have hrhb3 := hqhb3; (repeat unfold Loc at hrhb3)))
            (refine hK.out _ _ (by (first | assumption | exact Env.step (by assumption) (by assumption) | exact Env.old (by assumption) _ | exact Env.drew hE | exact hE | exact Env.drew (by assumption) | exact Env.drew (Env.old (by assumption) _) | ((repeat first | refine Env.far0 ?_ (by assumption) _ | refine Env.far1 ?_ (by assumption) _ | refine Env.farA ?_ (by assumption) _); assumption))) (fun hHeld => ?_); clear hK K; (try simp only [Act.put, List.setIfInBounds_toArray, List.set_cons_zero, List.set_cons_succ]))
            refine hTake 9 (by kernel_rfl) (by kernel_rfl) (by kernel_rfl) (by decide) (by assumption) ?_; (intro oi hoi; simp only [List.getElem?_toArray, List.getElem?_cons_succ, List.getElem?_cons_zero] at hoi; obtain rfl := Option.some.inj hoi; clear hoi); refine ⟨rfl, ?_⟩; apply Exists.intro; refine ⟨?_, fun _ _ _ h => h, ?_⟩; (intro w hSw; (try dsimp only at hSw); go_simp; (try with_reducible rfl)); (try simp only [Act.put, List.setIfInBounds_toArray, List.set_cons_zero, List.set_cons_succ])
            refine wpAnyH_done (by kernel_rfl) ?_ _
            obtain ⟨m2, e1, e2⟩ := up_step (lt := tlt) (d := t0) (by omega) him (by rw [GX.out, ← HP.out, GY.out]; exact hlt)
            rw [← HP.out] at e1 e2
            have E1 := Lib.hid e1
            clear e1
            have hrd := Own.rd (enc := tenc) (sz := 3) tenc_len (hown.below hHeld.1)
            have hb3' := below_then hb hHeld.1
            go_wp2_with (go_at_call 105; refine (rswapped_len (some ⟨g, 0, none⟩) cap (n + 1) l' i' p _ HLL.out hin (by omega) (by omega) (by omega) hrd).mono ?_; rintro e w4 ⟨v4, rfl, hown4, hb4⟩)
            go_roundw
            case rel => exact ⟨m2, p, sw t0 l' i' p, rfl, e2, by rw [sw_length, HLL.out], by omega, by rw [← E1.out, HUP.out], hown4.mono hb3'.size, below_then hb3' hb4⟩
            case measure => simp [intOf]; omega
          · have hlt' : tlt x y = false := by simpa using hlt
            have hz : up tlt t0 m l' i' = l' := up_stop _ _ (by rw [GX.out, ← HP.out, GY.out]; intro h; exact hlt h.2)
            have HZ := Lib.hid hz
            clear hz hlt
            go_wp2
            refine wp_region_held_drew (S := Env wr []) (by kernel_rfl) (by (first | assumption | exact Env.step (by assumption) (by assumption) | exact Env.old (by assumption) _ | exact Env.drew hE | exact hE | exact Env.drew (by assumption) | exact Env.drew (Env.old (by assumption) _) | ((repeat first | refine Env.far0 ?_ (by assumption) _ | refine Env.far1 ?_ (by assumption) _ | refine Env.farA ?_ (by assumption) _); assumption))) (fun hHeld => ?_)
            refine hTake 0 (by kernel_rfl) (by kernel_rfl) (by kernel_rfl) (by decide) (by assumption) ?_; (intro oi hoi; simp only [List.getElem?_toArray, List.getElem?_cons_zero] at hoi; obtain rfl := Option.some.inj hoi; clear hoi); refine ⟨rfl, ?_⟩; apply Exists.intro; refine ⟨?_, fun _ _ _ h => h, ?_⟩; (intro w hSw; (try dsimp only at hSw); go_simp; (try with_reducible rfl)); (try simp only [Act.put, List.setIfInBounds_toArray, List.set_cons_zero, List.set_cons_succ]); refine hTake 1 (by kernel_rfl) (by kernel_rfl) (by kernel_rfl) (by decide) (by assumption) ?_; (intro oi hoi; simp only [List.getElem?_toArray, List.getElem?_cons_succ, List.getElem?_cons_zero] at hoi; obtain rfl := Option.some.inj hoi; clear hoi); refine ⟨rfl, ?_⟩; apply Exists.intro; refine ⟨?_, fun _ _ _ h => h, ?_⟩; (intro w hSw; (try dsimp only at hSw); go_simp; (try with_reducible rfl)); (try simp only [Act.put, List.setIfInBounds_toArray, List.set_cons_zero, List.set_cons_succ]); refine hTake 2 (by kernel_rfl) (by kernel_rfl) (by kernel_rfl) (by decide) (by assumption) ?_; (intro oi hoi; simp only [List.getElem?_toArray, List.getElem?_cons_succ, List.getElem?_cons_zero] at hoi; obtain rfl := Option.some.inj hoi; clear hoi); refine ⟨rfl, ?_⟩; apply Exists.intro; refine ⟨?_, fun _ _ _ h => h, ?_⟩; (intro w hSw; (try dsimp only at hSw); go_simp; (try with_reducible rfl)); (try simp only [Act.put, List.setIfInBounds_toArray, List.set_cons_zero, List.set_cons_succ]); refine hTake 3 (by kernel_rfl) (by kernel_rfl) (by kernel_rfl) (by decide) (by assumption) ?_; (intro oi hoi; simp only [List.getElem?_toArray, List.getElem?_cons_succ, List.getElem?_cons_zero] at hoi; obtain rfl := Option.some.inj hoi; clear hoi); refine ⟨rfl, ?_⟩; apply Exists.intro; refine ⟨?_, fun _ _ _ h => h, ?_⟩; (intro w hSw; (try dsimp only at hSw); go_simp; (try with_reducible rfl)); (try simp only [Act.put, List.setIfInBounds_toArray, List.set_cons_zero, List.set_cons_succ]); refine hTake 4 (by kernel_rfl) (by kernel_rfl) (by kernel_rfl) (by decide) (by assumption) ?_; (intro oi hoi; simp only [List.getElem?_toArray, List.getElem?_cons_succ, List.getElem?_cons_zero] at hoi; obtain rfl := Option.some.inj hoi; clear hoi); refine ⟨rfl, ?_⟩; apply Exists.intro; refine ⟨?_, fun _ _ _ h => h, ?_⟩; (intro w hSw; (try dsimp only at hSw); go_simp; (try with_reducible rfl)); (try simp only [Act.put, List.setIfInBounds_toArray, List.set_cons_zero, List.set_cons_succ]); refine hTake 5 (by kernel_rfl) (by kernel_rfl) (by kernel_rfl) (by decide) (by assumption) ?_; (intro oi hoi; simp only [List.getElem?_toArray, List.getElem?_cons_succ, List.getElem?_cons_zero] at hoi; obtain rfl := Option.some.inj hoi; clear hoi); refine ⟨rfl, ?_⟩; apply Exists.intro; refine ⟨?_, fun _ _ _ h => h, ?_⟩; (intro w hSw; (try dsimp only at hSw); go_simp; (try with_reducible rfl)); (try simp only [Act.put, List.setIfInBounds_toArray, List.set_cons_zero, List.set_cons_succ]); refine hTake 6 (by kernel_rfl) (by kernel_rfl) (by kernel_rfl) (by decide) (by assumption) ?_; (intro oi hoi; simp only [List.getElem?_toArray, List.getElem?_cons_succ, List.getElem?_cons_zero] at hoi; obtain rfl := Option.some.inj hoi; clear hoi); refine ⟨rfl, ?_⟩; apply Exists.intro; refine ⟨?_, fun _ _ _ h => h, ?_⟩; (intro w hSw; (try dsimp only at hSw); go_simp; (try with_reducible rfl)); (try simp only [Act.put, List.setIfInBounds_toArray, List.set_cons_zero, List.set_cons_succ]); refine hTake 7 (by kernel_rfl) (by kernel_rfl) (by kernel_rfl) (by decide) (by assumption) ?_; (intro oi hoi; simp only [List.getElem?_toArray, List.getElem?_cons_succ, List.getElem?_cons_zero] at hoi; obtain rfl := Option.some.inj hoi; clear hoi); refine ⟨rfl, ?_⟩; apply Exists.intro; refine ⟨?_, fun _ _ _ h => h, ?_⟩; (intro w hSw; (try dsimp only at hSw); go_simp; (try with_reducible rfl)); (try simp only [Act.put, List.setIfInBounds_toArray, List.set_cons_zero, List.set_cons_succ])
            refine hOnly 8 (by kernel_rfl) (by decide) ?_; (intro oi hoi; simp only [List.getElem?_toArray, List.getElem?_cons_succ, List.getElem?_cons_zero] at hoi; obtain rfl := Option.some.inj hoi; clear hoi); intro K hK; go_simp
            go_at_call 29
            refine (rtless_any x y _).mono ?_
            rintro e w3 ⟨rfl, hb3⟩
            have hEhb3 := Env.step hb3 (by assumption); (try (have hqhb3 := (by with_reducible first | exact Loc.below hb3 (Loc.new (Loc.nil _) _ _) | exact Loc.below hb3 (Loc.drew (Loc.new (Loc.nil _) _ _)) | exact Loc.below hb3 (by assumption : Loc _ [_])); (repeat rw [World.size_drew] at hqhb3); (repeat rw [World.size_alloc] at hqhb3); have hrhb3 := hqhb3; (repeat unfold Loc at hrhb3)))
            (refine hK.out _ _ (by (first | assumption | exact Env.step (by assumption) (by assumption) | exact Env.old (by assumption) _ | exact Env.drew hE | exact hE | exact Env.drew (by assumption) | exact Env.drew (Env.old (by assumption) _) | ((repeat first | refine Env.far0 ?_ (by assumption) _ | refine Env.far1 ?_ (by assumption) _ | refine Env.farA ?_ (by assumption) _); assumption))) (fun hHeld => ?_); clear hK K; (try simp only [Act.put, List.setIfInBounds_toArray, List.set_cons_zero, List.set_cons_succ]))
            refine hTake 9 (by kernel_rfl) (by kernel_rfl) (by kernel_rfl) (by decide) (by assumption) ?_; (intro oi hoi; simp only [List.getElem?_toArray, List.getElem?_cons_succ, List.getElem?_cons_zero] at hoi; obtain rfl := Option.some.inj hoi; clear hoi); refine ⟨rfl, ?_⟩; apply Exists.intro; refine ⟨?_, fun _ _ _ h => h, ?_⟩; (intro w hSw; (try dsimp only at hSw); go_simp; (try with_reducible rfl)); (try simp only [Act.put, List.setIfInBounds_toArray, List.set_cons_zero, List.set_cons_succ])
            refine wpAnyH_done (by kernel_rfl) ?_ _
            have hown5 := hown.below hHeld.1
            have hb3' := below_then hb hHeld.1
            rw [HLL.out] at hown5
            go_wp2
            go_ret
            exact ⟨_, rfl, by rw [← HUP.out, HZ.out]; exact hown5, hb3'⟩
    · (intro oi hoi; simp only [List.getElem?_toArray, List.getElem?_cons_succ, List.getElem?_cons_zero] at hoi; obtain rfl := Option.some.inj hoi; clear hoi); intro K hK
      go_simp
      (refine hK.out _ _ (by (first | assumption | exact Env.step (by assumption) (by assumption) | exact Env.old (by assumption) _ | exact Env.drew hE | exact hE | exact Env.drew (by assumption) | exact Env.drew (Env.old (by assumption) _) | ((repeat first | refine Env.far0 ?_ (by assumption) _ | refine Env.far1 ?_ (by assumption) _ | refine Env.farA ?_ (by assumption) _); assumption))) (fun hHeld => ?_); clear hK K; (try simp only [Act.put, List.setIfInBounds_toArray, List.set_cons_zero, List.set_cons_succ]))
      refine wpAnyH_ready (rs := [2]) (by kernel_rfl) (by simp) ?_
      refine hCons 2 (by decide) ?_ AllReadyH.nil
      (intro oi hoi; simp only [List.getElem?_toArray, List.getElem?_cons_succ, List.getElem?_cons_zero] at hoi; obtain rfl := Option.some.inj hoi; clear hoi); intro K hK
      refine step_append_list rfl (.tmp 8) (.tmp 9) 22 rfl (w.heap.size + 1) 34 i0 (.agg #[.int .i64 0, .int .i64 0, .int .i64 0]) 3 24 Try.underlying22 hi0 hz0 hz1 hz2 rfl (by decide) tenc tenc_len (.slice (some ⟨w.heap.size + 1, 0, none⟩) 0 0) [] l rfl (own_empty (by have h := heap_alloc_new (w.alloc (.cells #[.int .i64 t.s, .int .i64 t.e, .int .i64 t.k] 34)) (.cells #[] 34); rw [World.size_alloc] at h; exact (Below.heap_alloc _ _ _ (by simp)).trans h) (by omega)) ⟨b, off, none⟩ n c rfl HN.out.symm (fun j u hj => HF.out _ (by assumption) j u hj) (tenc_one l) (by unfold maxLen; simp; omega) (by first | omega | (simp <;> omega)) (by first | omega | (simp <;> omega)) ?_
      intro v w1 hown hgrow hbel
      have hE1 := Env.kept hE (by assumption) (by rw [World.size_alloc]; exact hbel)
      have hs1 := hbel.size
      simp at hs1
      rw [List.nil_append] at hown
      have htm := tm_far hgrow (tm_new ((w.alloc (.cells #[.int .i64 t.s, .int .i64 t.e, .int .i64 t.k] 34)).alloc (.cells #[] 34)) t 34 (w.heap.size + 2) (by simp)) (by simp) (by simp [Value.ownBlock]); clear hgrow
      refine hK.out _ _ hE1 (fun hHeld => ?_)
      clear hK K
      (try simp only [Act.put, List.setIfInBounds_toArray, List.set_cons_zero, List.set_cons_succ])
      refine wpAnyH_ready (rs := [5]) (by kernel_rfl) (by simp) ?_
      refine hCons 5 (by decide) ?_ AllReadyH.nil
      (intro oi hoi; simp only [List.getElem?_toArray, List.getElem?_cons_succ, List.getElem?_cons_zero] at hoi; obtain rfl := Option.some.inj hoi; clear hoi); intro K hK
      refine step_append_list rfl (.tmp 10) (.tmp 12) 22 rfl (w.heap.size + 1) 34 i0 (.agg #[.int .i64 0, .int .i64 0, .int .i64 0]) 3 24 Try.underlying22 hi0 hz0 hz1 hz2 rfl (by decide) tenc tenc_len v l [t] rfl hown ⟨w.heap.size + 2, 0, none⟩ 1 1 rfl rfl htm (tenc_one [t]) (by rw [← HN.out]; unfold maxLen; omega) (by rw [← HN.out]; omega) (by first | omega | (simp <;> omega)) ?_
      intro v2 w2 hown2 hgrow2 hbel2
      have hE2 := Env.kept hE (by assumption) (by rw [World.size_alloc]; exact hbel2)
      clear hgrow2
      refine hK.out _ _ hE2 (fun hHeld => ?_)
      clear hK K
      (try simp only [Act.put, List.setIfInBounds_toArray, List.set_cons_zero, List.set_cons_succ])
      refine hTake 6 (by kernel_rfl) (by kernel_rfl) (by kernel_rfl) (by decide) (by assumption) ?_; (intro oi hoi; simp only [List.getElem?_toArray, List.getElem?_cons_succ, List.getElem?_cons_zero] at hoi; obtain rfl := Option.some.inj hoi; clear hoi); refine ⟨rfl, ?_⟩; apply Exists.intro; refine ⟨?_, fun _ _ _ h => h, ?_⟩; (intro w hSw; (try dsimp only at hSw); go_simp; (try with_reducible rfl)); (try simp only [Act.put, List.setIfInBounds_toArray, List.set_cons_zero, List.set_cons_succ])
      refine wpAnyH_done (by kernel_rfl) ?_ _
      have hb2 := hE2.1
      clear hown hE1 hE2 hs1
      try clear hbel hbel2
      (try clear htm)
      clear HF hL hE hR hr
      have hown3 := hown2.mono (base' := w.heap.size) (by omega)
      have hlen : (l ++ [t]).length = n + 1 := by simp [HN.out]
      have HLEN := Lib.hid hlen
      clear hlen hown2
      go_wp2_with fail
      go_loopw [5, 6] (fun v i wr => ∃ (m i' : Nat) (l' : List Tm), i = .int .i64 i' ∧ i' ≤ m ∧ l'.length = n + 1 ∧ i' < n + 1 ∧ up tlt t0 m l' i' = pushL tlt t0 l t ∧ Own tenc 3 wr w.heap.size 34 v l' ∧ Below w.heap.size w wr) (fun _ i _ => (intOf i).toNat)
      case atStart => exact ⟨n, n, l ++ [t], rfl, Nat.le_refl _, HLEN.out, by omega, by rw [HN.out]; rfl, hown3, hb2⟩
      case round =>
        obtain ⟨m, i', l', rfl, him, hll, hin, hup, hown, hb⟩ := hrel
        clear hown3 hb2
        have HLL := Lib.hid hll
        have HUP := Lib.hid hup
        clear hll hup
        by_cases hi0' : i' = 0
        · have hz : up tlt t0 m l' i' = l' := up_stop _ _ (by omega)
          have HZ := Lib.hid hz
          clear hz
          subst hi0'
          rw [show ((0 : Nat) : Int) = 0 from rfl]
          go_wp2
          go_ret
          exact ⟨_, rfl, by rw [← HUP.out, HZ.out]; exact hown, hb⟩
        · obtain ⟨p, hp⟩ : ∃ p, p = (i' - 1) / 2 := ⟨_, rfl⟩
          have hpe : ((i' : Int) - 1) / 2 = (p : Int) := by omega
          have hpi : p < i' := by omega
          have j1 : (0 : Int) ≤ (i' : Int) := by omega
          have j2 : (i' : Int) < (n : Int) + 1 := by omega
          have j3 : (0 : Int) ≤ (p : Int) := by omega
          have j4 : (p : Int) < (n : Int) + 1 := by omega
          have HP := Lib.hid hp
          clear hp
          obtain ⟨x, hx⟩ : ∃ x, l'[i']? = some x := ⟨_, List.getElem?_eq_getElem (by rw [HLL.out]; exact hin)⟩
          obtain ⟨y, hy⟩ : ∃ y, l'[p]? = some y := ⟨_, List.getElem?_eq_getElem (by rw [HLL.out]; omega)⟩
          obtain ⟨g, cap, rfl, hbg, hglt⟩ := World.ownsRow.form hown (by rw [HLL.out]; omega)
          obtain ⟨p1, p2, p3, -⟩ := own_tm hown hx
          obtain ⟨q1, q2, q3, -⟩ := own_tm hown hy
          have GX := Lib.hid (getD_some (d := t0) hx)
          have GY := Lib.hid (getD_some (d := t0) hy)
          have hE : Env wr [] wr := ⟨Below.refl _ _, trivial⟩
          have hR : ∀ X, Env wr [] X → X.cell? ⟨g, i' * 3, none⟩ = some (.int .i64 x.s) ∧ X.cell? ⟨g, i' * 3 + 1, none⟩ = some (.int .i64 x.e) ∧ X.cell? ⟨g, i' * 3 + 2, none⟩ = some (.int .i64 x.k) ∧
              X.cell? ⟨g, p * 3, none⟩ = some (.int .i64 y.s) ∧ X.cell? ⟨g, p * 3 + 1, none⟩ = some (.int .i64 y.e) ∧ X.cell? ⟨g, p * 3 + 2, none⟩ = some (.int .i64 y.k) := fun X hX =>
            ⟨(hX.1.cell (p := ⟨g, i' * 3, none⟩) hglt).trans p1, (hX.1.cell (p := ⟨g, i' * 3 + 1, none⟩) hglt).trans p2, (hX.1.cell (p := ⟨g, i' * 3 + 2, none⟩) hglt).trans p3,
              (hX.1.cell (p := ⟨g, p * 3, none⟩) hglt).trans q1, (hX.1.cell (p := ⟨g, p * 3 + 1, none⟩) hglt).trans q2, (hX.1.cell (p := ⟨g, p * 3 + 2, none⟩) hglt).trans q3⟩
          rw [HLL.out]
          clear p1 p2 p3 q1 q2 q3 hx hy
          by_cases hlt : tlt x y = true
          · go_wp2
            refine wp_region_held_drew (S := Env wr []) (by kernel_rfl) (by (first | assumption | exact Env.step (by assumption) (by assumption) | exact Env.old (by assumption) _ | exact Env.drew hE | exact hE | exact Env.drew (by assumption) | exact Env.drew (Env.old (by assumption) _) | ((repeat first | refine Env.far0 ?_ (by assumption) _ | refine Env.far1 ?_ (by assumption) _ | refine Env.farA ?_ (by assumption) _); assumption))) (fun hHeld => ?_)
            refine hTake 0 (by kernel_rfl) (by kernel_rfl) (by kernel_rfl) (by decide) (by assumption) ?_; (intro oi hoi; simp only [List.getElem?_toArray, List.getElem?_cons_zero] at hoi; obtain rfl := Option.some.inj hoi; clear hoi); refine ⟨rfl, ?_⟩; apply Exists.intro; refine ⟨?_, fun _ _ _ h => h, ?_⟩; (intro w hSw; (try dsimp only at hSw); go_simp; (try with_reducible rfl)); (try simp only [Act.put, List.setIfInBounds_toArray, List.set_cons_zero, List.set_cons_succ]); refine hTake 1 (by kernel_rfl) (by kernel_rfl) (by kernel_rfl) (by decide) (by assumption) ?_; (intro oi hoi; simp only [List.getElem?_toArray, List.getElem?_cons_succ, List.getElem?_cons_zero] at hoi; obtain rfl := Option.some.inj hoi; clear hoi); refine ⟨rfl, ?_⟩; apply Exists.intro; refine ⟨?_, fun _ _ _ h => h, ?_⟩; (intro w hSw; (try dsimp only at hSw); go_simp; (try with_reducible rfl)); (try simp only [Act.put, List.setIfInBounds_toArray, List.set_cons_zero, List.set_cons_succ]); refine hTake 2 (by kernel_rfl) (by kernel_rfl) (by kernel_rfl) (by decide) (by assumption) ?_; (intro oi hoi; simp only [List.getElem?_toArray, List.getElem?_cons_succ, List.getElem?_cons_zero] at hoi; obtain rfl := Option.some.inj hoi; clear hoi); refine ⟨rfl, ?_⟩; apply Exists.intro; refine ⟨?_, fun _ _ _ h => h, ?_⟩; (intro w hSw; (try dsimp only at hSw); go_simp; (try with_reducible rfl)); (try simp only [Act.put, List.setIfInBounds_toArray, List.set_cons_zero, List.set_cons_succ]); refine hTake 3 (by kernel_rfl) (by kernel_rfl) (by kernel_rfl) (by decide) (by assumption) ?_; (intro oi hoi; simp only [List.getElem?_toArray, List.getElem?_cons_succ, List.getElem?_cons_zero] at hoi; obtain rfl := Option.some.inj hoi; clear hoi); refine ⟨rfl, ?_⟩; apply Exists.intro; refine ⟨?_, fun _ _ _ h => h, ?_⟩; (intro w hSw; (try dsimp only at hSw); go_simp; (try with_reducible rfl)); (try simp only [Act.put, List.setIfInBounds_toArray, List.set_cons_zero, List.set_cons_succ]); refine hTake 4 (by kernel_rfl) (by kernel_rfl) (by kernel_rfl) (by decide) (by assumption) ?_; (intro oi hoi; simp only [List.getElem?_toArray, List.getElem?_cons_succ, List.getElem?_cons_zero] at hoi; obtain rfl := Option.some.inj hoi; clear hoi); refine ⟨rfl, ?_⟩; apply Exists.intro; refine ⟨?_, fun _ _ _ h => h, ?_⟩; (intro w hSw; (try dsimp only at hSw); go_simp; (try with_reducible rfl)); (try simp only [Act.put, List.setIfInBounds_toArray, List.set_cons_zero, List.set_cons_succ]); refine hTake 5 (by kernel_rfl) (by kernel_rfl) (by kernel_rfl) (by decide) (by assumption) ?_; (intro oi hoi; simp only [List.getElem?_toArray, List.getElem?_cons_succ, List.getElem?_cons_zero] at hoi; obtain rfl := Option.some.inj hoi; clear hoi); refine ⟨rfl, ?_⟩; apply Exists.intro; refine ⟨?_, fun _ _ _ h => h, ?_⟩; (intro w hSw; (try dsimp only at hSw); go_simp; (try with_reducible rfl)); (try simp only [Act.put, List.setIfInBounds_toArray, List.set_cons_zero, List.set_cons_succ]); refine hTake 6 (by kernel_rfl) (by kernel_rfl) (by kernel_rfl) (by decide) (by assumption) ?_; (intro oi hoi; simp only [List.getElem?_toArray, List.getElem?_cons_succ, List.getElem?_cons_zero] at hoi; obtain rfl := Option.some.inj hoi; clear hoi); refine ⟨rfl, ?_⟩; apply Exists.intro; refine ⟨?_, fun _ _ _ h => h, ?_⟩; (intro w hSw; (try dsimp only at hSw); go_simp; (try with_reducible rfl)); (try simp only [Act.put, List.setIfInBounds_toArray, List.set_cons_zero, List.set_cons_succ]); refine hTake 7 (by kernel_rfl) (by kernel_rfl) (by kernel_rfl) (by decide) (by assumption) ?_; (intro oi hoi; simp only [List.getElem?_toArray, List.getElem?_cons_succ, List.getElem?_cons_zero] at hoi; obtain rfl := Option.some.inj hoi; clear hoi); refine ⟨rfl, ?_⟩; apply Exists.intro; refine ⟨?_, fun _ _ _ h => h, ?_⟩; (intro w hSw; (try dsimp only at hSw); go_simp; (try with_reducible rfl)); (try simp only [Act.put, List.setIfInBounds_toArray, List.set_cons_zero, List.set_cons_succ])
            refine hOnly 8 (by kernel_rfl) (by decide) ?_; (intro oi hoi; simp only [List.getElem?_toArray, List.getElem?_cons_succ, List.getElem?_cons_zero] at hoi; obtain rfl := Option.some.inj hoi; clear hoi); intro K hK; go_simp
            go_at_call 29
            refine (rtless_any x y _).mono ?_
            rintro e w3 ⟨rfl, hb3⟩
            have hEhb3 := Env.step hb3 (by assumption); (try (have hqhb3 := (by with_reducible first | exact Loc.below hb3 (Loc.new (Loc.nil _) _ _) | exact Loc.below hb3 (Loc.drew (Loc.new (Loc.nil _) _ _)) | exact Loc.below hb3 (by assumption : Loc _ [_])); (repeat rw [World.size_drew] at hqhb3); (repeat rw [World.size_alloc] at hqhb3); have hrhb3 := hqhb3; (repeat unfold Loc at hrhb3)))
            (refine hK.out _ _ (by (first | assumption | exact Env.step (by assumption) (by assumption) | exact Env.old (by assumption) _ | exact Env.drew hE | exact hE | exact Env.drew (by assumption) | exact Env.drew (Env.old (by assumption) _) | ((repeat first | refine Env.far0 ?_ (by assumption) _ | refine Env.far1 ?_ (by assumption) _ | refine Env.farA ?_ (by assumption) _); assumption))) (fun hHeld => ?_); clear hK K; (try simp only [Act.put, List.setIfInBounds_toArray, List.set_cons_zero, List.set_cons_succ]))
            refine hTake 9 (by kernel_rfl) (by kernel_rfl) (by kernel_rfl) (by decide) (by assumption) ?_; (intro oi hoi; simp only [List.getElem?_toArray, List.getElem?_cons_succ, List.getElem?_cons_zero] at hoi; obtain rfl := Option.some.inj hoi; clear hoi); refine ⟨rfl, ?_⟩; apply Exists.intro; refine ⟨?_, fun _ _ _ h => h, ?_⟩; (intro w hSw; (try dsimp only at hSw); go_simp; (try with_reducible rfl)); (try simp only [Act.put, List.setIfInBounds_toArray, List.set_cons_zero, List.set_cons_succ])
            refine wpAnyH_done (by kernel_rfl) ?_ _
            obtain ⟨m2, e1, e2⟩ := up_step (lt := tlt) (d := t0) (by omega) him (by rw [GX.out, ← HP.out, GY.out]; exact hlt)
            rw [← HP.out] at e1 e2
            have E1 := Lib.hid e1
            clear e1
            have hrd := Own.rd (enc := tenc) (sz := 3) tenc_len (hown.below hHeld.1)
            have hb3' := below_then hb hHeld.1
            go_wp2_with (go_at_call 105; refine (rswapped_len (some ⟨g, 0, none⟩) cap (n + 1) l' i' p _ HLL.out hin (by omega) (by omega) (by omega) hrd).mono ?_; rintro e w4 ⟨v4, rfl, hown4, hb4⟩)
            go_roundw
            case rel => exact ⟨m2, p, sw t0 l' i' p, rfl, e2, by rw [sw_length, HLL.out], by omega, by rw [← E1.out, HUP.out], hown4.mono hb3'.size, below_then hb3' hb4⟩
            case measure => simp [intOf]; omega
          · have hlt' : tlt x y = false := by simpa using hlt
            have hz : up tlt t0 m l' i' = l' := up_stop _ _ (by rw [GX.out, ← HP.out, GY.out]; intro h; exact hlt h.2)
            have HZ := Lib.hid hz
            clear hz hlt
            go_wp2
            refine wp_region_held_drew (S := Env wr []) (by kernel_rfl) (by (first | assumption | exact Env.step (by assumption) (by assumption) | exact Env.old (by assumption) _ | exact Env.drew hE | exact hE | exact Env.drew (by assumption) | exact Env.drew (Env.old (by assumption) _) | ((repeat first | refine Env.far0 ?_ (by assumption) _ | refine Env.far1 ?_ (by assumption) _ | refine Env.farA ?_ (by assumption) _); assumption))) (fun hHeld => ?_)
            refine hTake 0 (by kernel_rfl) (by kernel_rfl) (by kernel_rfl) (by decide) (by assumption) ?_; (intro oi hoi; simp only [List.getElem?_toArray, List.getElem?_cons_zero] at hoi; obtain rfl := Option.some.inj hoi; clear hoi); refine ⟨rfl, ?_⟩; apply Exists.intro; refine ⟨?_, fun _ _ _ h => h, ?_⟩; (intro w hSw; (try dsimp only at hSw); go_simp; (try with_reducible rfl)); (try simp only [Act.put, List.setIfInBounds_toArray, List.set_cons_zero, List.set_cons_succ]); refine hTake 1 (by kernel_rfl) (by kernel_rfl) (by kernel_rfl) (by decide) (by assumption) ?_; (intro oi hoi; simp only [List.getElem?_toArray, List.getElem?_cons_succ, List.getElem?_cons_zero] at hoi; obtain rfl := Option.some.inj hoi; clear hoi); refine ⟨rfl, ?_⟩; apply Exists.intro; refine ⟨?_, fun _ _ _ h => h, ?_⟩; (intro w hSw; (try dsimp only at hSw); go_simp; (try with_reducible rfl)); (try simp only [Act.put, List.setIfInBounds_toArray, List.set_cons_zero, List.set_cons_succ]); refine hTake 2 (by kernel_rfl) (by kernel_rfl) (by kernel_rfl) (by decide) (by assumption) ?_; (intro oi hoi; simp only [List.getElem?_toArray, List.getElem?_cons_succ, List.getElem?_cons_zero] at hoi; obtain rfl := Option.some.inj hoi; clear hoi); refine ⟨rfl, ?_⟩; apply Exists.intro; refine ⟨?_, fun _ _ _ h => h, ?_⟩; (intro w hSw; (try dsimp only at hSw); go_simp; (try with_reducible rfl)); (try simp only [Act.put, List.setIfInBounds_toArray, List.set_cons_zero, List.set_cons_succ]); refine hTake 3 (by kernel_rfl) (by kernel_rfl) (by kernel_rfl) (by decide) (by assumption) ?_; (intro oi hoi; simp only [List.getElem?_toArray, List.getElem?_cons_succ, List.getElem?_cons_zero] at hoi; obtain rfl := Option.some.inj hoi; clear hoi); refine ⟨rfl, ?_⟩; apply Exists.intro; refine ⟨?_, fun _ _ _ h => h, ?_⟩; (intro w hSw; (try dsimp only at hSw); go_simp; (try with_reducible rfl)); (try simp only [Act.put, List.setIfInBounds_toArray, List.set_cons_zero, List.set_cons_succ]); refine hTake 4 (by kernel_rfl) (by kernel_rfl) (by kernel_rfl) (by decide) (by assumption) ?_; (intro oi hoi; simp only [List.getElem?_toArray, List.getElem?_cons_succ, List.getElem?_cons_zero] at hoi; obtain rfl := Option.some.inj hoi; clear hoi); refine ⟨rfl, ?_⟩; apply Exists.intro; refine ⟨?_, fun _ _ _ h => h, ?_⟩; (intro w hSw; (try dsimp only at hSw); go_simp; (try with_reducible rfl)); (try simp only [Act.put, List.setIfInBounds_toArray, List.set_cons_zero, List.set_cons_succ]); refine hTake 5 (by kernel_rfl) (by kernel_rfl) (by kernel_rfl) (by decide) (by assumption) ?_; (intro oi hoi; simp only [List.getElem?_toArray, List.getElem?_cons_succ, List.getElem?_cons_zero] at hoi; obtain rfl := Option.some.inj hoi; clear hoi); refine ⟨rfl, ?_⟩; apply Exists.intro; refine ⟨?_, fun _ _ _ h => h, ?_⟩; (intro w hSw; (try dsimp only at hSw); go_simp; (try with_reducible rfl)); (try simp only [Act.put, List.setIfInBounds_toArray, List.set_cons_zero, List.set_cons_succ]); refine hTake 6 (by kernel_rfl) (by kernel_rfl) (by kernel_rfl) (by decide) (by assumption) ?_; (intro oi hoi; simp only [List.getElem?_toArray, List.getElem?_cons_succ, List.getElem?_cons_zero] at hoi; obtain rfl := Option.some.inj hoi; clear hoi); refine ⟨rfl, ?_⟩; apply Exists.intro; refine ⟨?_, fun _ _ _ h => h, ?_⟩; (intro w hSw; (try dsimp only at hSw); go_simp; (try with_reducible rfl)); (try simp only [Act.put, List.setIfInBounds_toArray, List.set_cons_zero, List.set_cons_succ]); refine hTake 7 (by kernel_rfl) (by kernel_rfl) (by kernel_rfl) (by decide) (by assumption) ?_; (intro oi hoi; simp only [List.getElem?_toArray, List.getElem?_cons_succ, List.getElem?_cons_zero] at hoi; obtain rfl := Option.some.inj hoi; clear hoi); refine ⟨rfl, ?_⟩; apply Exists.intro; refine ⟨?_, fun _ _ _ h => h, ?_⟩; (intro w hSw; (try dsimp only at hSw); go_simp; (try with_reducible rfl)); (try simp only [Act.put, List.setIfInBounds_toArray, List.set_cons_zero, List.set_cons_succ])
            refine hOnly 8 (by kernel_rfl) (by decide) ?_; (intro oi hoi; simp only [List.getElem?_toArray, List.getElem?_cons_succ, List.getElem?_cons_zero] at hoi; obtain rfl := Option.some.inj hoi; clear hoi); intro K hK; go_simp
            go_at_call 29
            refine (rtless_any x y _).mono ?_
            rintro e w3 ⟨rfl, hb3⟩
            have hEhb3 := Env.step hb3 (by assumption); (try (have hqhb3 := (by with_reducible first | exact Loc.below hb3 (Loc.new (Loc.nil _) _ _) | exact Loc.below hb3 (Loc.drew (Loc.new (Loc.nil _) _ _)) | exact Loc.below hb3 (by assumption : Loc _ [_])); (repeat rw [World.size_drew] at hqhb3); (repeat rw [World.size_alloc] at hqhb3); have hrhb3 := hqhb3; (repeat unfold Loc at hrhb3)))
            (refine hK.out _ _ (by (first | assumption | exact Env.step (by assumption) (by assumption) | exact Env.old (by assumption) _ | exact Env.drew hE | exact hE | exact Env.drew (by assumption) | exact Env.drew (Env.old (by assumption) _) | ((repeat first | refine Env.far0 ?_ (by assumption) _ | refine Env.far1 ?_ (by assumption) _ | refine Env.farA ?_ (by assumption) _); assumption))) (fun hHeld => ?_); clear hK K; (try simp only [Act.put, List.setIfInBounds_toArray, List.set_cons_zero, List.set_cons_succ]))
            refine hTake 9 (by kernel_rfl) (by kernel_rfl) (by kernel_rfl) (by decide) (by assumption) ?_; (intro oi hoi; simp only [List.getElem?_toArray, List.getElem?_cons_succ, List.getElem?_cons_zero] at hoi; obtain rfl := Option.some.inj hoi; clear hoi); refine ⟨rfl, ?_⟩; apply Exists.intro; refine ⟨?_, fun _ _ _ h => h, ?_⟩; (intro w hSw; (try dsimp only at hSw); go_simp; (try with_reducible rfl)); (try simp only [Act.put, List.setIfInBounds_toArray, List.set_cons_zero, List.set_cons_succ])
            refine wpAnyH_done (by kernel_rfl) ?_ _
            have hown5 := hown.below hHeld.1
            have hb3' := below_then hb hHeld.1
            rw [HLL.out] at hown5
            go_wp2
            go_ret
            exact ⟨_, rfl, by rw [← HUP.out, HZ.out]; exact hown5, hb3'⟩
  · (intro oi hoi; simp only [List.getElem?_toArray, List.getElem?_cons_succ, List.getElem?_cons_zero] at hoi; obtain rfl := Option.some.inj hoi; clear hoi); intro K hK
    go_simp
    (refine hK.out _ _ (by (first | assumption | exact Env.step (by assumption) (by assumption) | exact Env.old (by assumption) _ | exact Env.drew hE | exact hE | exact Env.drew (by assumption) | exact Env.drew (Env.old (by assumption) _) | ((repeat first | refine Env.far0 ?_ (by assumption) _ | refine Env.far1 ?_ (by assumption) _ | refine Env.farA ?_ (by assumption) _); assumption))) (fun hHeld => ?_); clear hK K; (try simp only [Act.put, List.setIfInBounds_toArray, List.set_cons_zero, List.set_cons_succ]))
    refine hOnly 0 (by kernel_rfl) (by decide) ?_; (intro oi hoi; simp only [List.getElem?_toArray, List.getElem?_cons_zero] at hoi; obtain rfl := Option.some.inj hoi; clear hoi); intro K hK; go_simp
    (refine hK.out _ _ (by (first | assumption | exact Env.step (by assumption) (by assumption) | exact Env.old (by assumption) _ | exact Env.drew hE | exact hE | exact Env.drew (by assumption) | exact Env.drew (Env.old (by assumption) _) | ((repeat first | refine Env.far0 ?_ (by assumption) _ | refine Env.far1 ?_ (by assumption) _ | refine Env.farA ?_ (by assumption) _); assumption))) (fun hHeld => ?_); clear hK K; (try simp only [Act.put, List.setIfInBounds_toArray, List.set_cons_zero, List.set_cons_succ]))
    refine wpAnyH_ready (rs := [2]) (by kernel_rfl) (by simp) ?_
    refine hCons 2 (by decide) ?_ AllReadyH.nil
    (intro oi hoi; simp only [List.getElem?_toArray, List.getElem?_cons_succ, List.getElem?_cons_zero] at hoi; obtain rfl := Option.some.inj hoi; clear hoi); intro K hK
    refine step_append_list rfl (.tmp 8) (.tmp 9) 22 rfl (w.heap.size + 1) 34 i0 (.agg #[.int .i64 0, .int .i64 0, .int .i64 0]) 3 24 Try.underlying22 hi0 hz0 hz1 hz2 rfl (by decide) tenc tenc_len (.slice (some ⟨w.heap.size + 2, 0, none⟩) 0 0) [] l rfl (own_empty (by have h := heap_alloc_new ((w.alloc (.cells #[.int .i64 t.s, .int .i64 t.e, .int .i64 t.k] 34)).alloc (.cells #[.int .i64 t.s, .int .i64 t.e, .int .i64 t.k] 34)) (.cells #[] 34); rw [World.size_alloc, World.size_alloc] at h; exact h) (by omega)) ⟨b, off, none⟩ n c rfl HN.out.symm (fun j u hj => HF.out _ (by assumption) j u hj) (tenc_one l) (by unfold maxLen; simp; omega) (by first | omega | (simp <;> omega)) (by first | omega | (simp <;> omega)) ?_
    intro v w1 hown hgrow hbel
    have hE1 := Env.kept hE (by assumption) (by rw [World.size_alloc]; exact hbel)
    have hs1 := hbel.size
    simp at hs1
    rw [List.nil_append] at hown
    have htm := tm_far hgrow (fun j u hj => (Below.cell (p := (⟨w.heap.size + 1, 0, none⟩ : Addr).add j) ((Below.refl (w.heap.size + 2) _).alloc (by simp) _) (by unfold Addr.add; split <;> simp)).trans (tm_new (w.alloc (.cells #[.int .i64 t.s, .int .i64 t.e, .int .i64 t.k] 34)) t 34 (w.heap.size + 1) (by simp) j u hj)) (by first | omega | (simp <;> omega)) (by simp [Value.ownBlock]); clear hgrow
    refine hK.out _ _ hE1 (fun hHeld => ?_)
    clear hK K
    (try simp only [Act.put, List.setIfInBounds_toArray, List.set_cons_zero, List.set_cons_succ])
    refine wpAnyH_ready (rs := [5]) (by kernel_rfl) (by simp) ?_
    refine hCons 5 (by decide) ?_ AllReadyH.nil
    (intro oi hoi; simp only [List.getElem?_toArray, List.getElem?_cons_succ, List.getElem?_cons_zero] at hoi; obtain rfl := Option.some.inj hoi; clear hoi); intro K hK
    refine step_append_list rfl (.tmp 10) (.tmp 12) 22 rfl (w.heap.size + 1) 34 i0 (.agg #[.int .i64 0, .int .i64 0, .int .i64 0]) 3 24 Try.underlying22 hi0 hz0 hz1 hz2 rfl (by decide) tenc tenc_len v l [t] rfl hown ⟨w.heap.size + 1, 0, none⟩ 1 1 rfl rfl htm (tenc_one [t]) (by rw [← HN.out]; unfold maxLen; omega) (by rw [← HN.out]; omega) (by first | omega | (simp <;> omega)) ?_
    intro v2 w2 hown2 hgrow2 hbel2
    have hE2 := Env.kept hE (by assumption) (by rw [World.size_alloc]; exact hbel2)
    clear hgrow2
    refine hK.out _ _ hE2 (fun hHeld => ?_)
    clear hK K
    (try simp only [Act.put, List.setIfInBounds_toArray, List.set_cons_zero, List.set_cons_succ])
    refine hTake 6 (by kernel_rfl) (by kernel_rfl) (by kernel_rfl) (by decide) (by assumption) ?_; (intro oi hoi; simp only [List.getElem?_toArray, List.getElem?_cons_succ, List.getElem?_cons_zero] at hoi; obtain rfl := Option.some.inj hoi; clear hoi); refine ⟨rfl, ?_⟩; apply Exists.intro; refine ⟨?_, fun _ _ _ h => h, ?_⟩; (intro w hSw; (try dsimp only at hSw); go_simp; (try with_reducible rfl)); (try simp only [Act.put, List.setIfInBounds_toArray, List.set_cons_zero, List.set_cons_succ])
    refine wpAnyH_done (by kernel_rfl) ?_ _
    have hb2 := hE2.1
    clear hown hE1 hE2 hs1
    try clear hbel hbel2
    (try clear htm)
    clear HF hL hE hR hr
    have hown3 := hown2.mono (base' := w.heap.size) (by omega)
    have hlen : (l ++ [t]).length = n + 1 := by simp [HN.out]
    have HLEN := Lib.hid hlen
    clear hlen hown2
    go_wp2_with fail
    go_loopw [5, 6] (fun v i wr => ∃ (m i' : Nat) (l' : List Tm), i = .int .i64 i' ∧ i' ≤ m ∧ l'.length = n + 1 ∧ i' < n + 1 ∧ up tlt t0 m l' i' = pushL tlt t0 l t ∧ Own tenc 3 wr w.heap.size 34 v l' ∧ Below w.heap.size w wr) (fun _ i _ => (intOf i).toNat)
    case atStart => exact ⟨n, n, l ++ [t], rfl, Nat.le_refl _, HLEN.out, by omega, by rw [HN.out]; rfl, hown3, hb2⟩
    case round =>
      obtain ⟨m, i', l', rfl, him, hll, hin, hup, hown, hb⟩ := hrel
      clear hown3 hb2
      have HLL := Lib.hid hll
      have HUP := Lib.hid hup
      clear hll hup
      by_cases hi0' : i' = 0
      · have hz : up tlt t0 m l' i' = l' := up_stop _ _ (by omega)
        have HZ := Lib.hid hz
        clear hz
        subst hi0'
        rw [show ((0 : Nat) : Int) = 0 from rfl]
        go_wp2
        go_ret
        exact ⟨_, rfl, by rw [← HUP.out, HZ.out]; exact hown, hb⟩
      · obtain ⟨p, hp⟩ : ∃ p, p = (i' - 1) / 2 := ⟨_, rfl⟩
        have hpe : ((i' : Int) - 1) / 2 = (p : Int) := by omega
        have hpi : p < i' := by omega
        have j1 : (0 : Int) ≤ (i' : Int) := by omega
        have j2 : (i' : Int) < (n : Int) + 1 := by omega
        have j3 : (0 : Int) ≤ (p : Int) := by omega
        have j4 : (p : Int) < (n : Int) + 1 := by omega
        have HP := Lib.hid hp
        clear hp
        obtain ⟨x, hx⟩ : ∃ x, l'[i']? = some x := ⟨_, List.getElem?_eq_getElem (by rw [HLL.out]; exact hin)⟩
        obtain ⟨y, hy⟩ : ∃ y, l'[p]? = some y := ⟨_, List.getElem?_eq_getElem (by rw [HLL.out]; omega)⟩
        obtain ⟨g, cap, rfl, hbg, hglt⟩ := World.ownsRow.form hown (by rw [HLL.out]; omega)
        obtain ⟨p1, p2, p3, -⟩ := own_tm hown hx
        obtain ⟨q1, q2, q3, -⟩ := own_tm hown hy
        have GX := Lib.hid (getD_some (d := t0) hx)
        have GY := Lib.hid (getD_some (d := t0) hy)
        have hE : Env wr [] wr := ⟨Below.refl _ _, trivial⟩
        have hR : ∀ X, Env wr [] X → X.cell? ⟨g, i' * 3, none⟩ = some (.int .i64 x.s) ∧ X.cell? ⟨g, i' * 3 + 1, none⟩ = some (.int .i64 x.e) ∧ X.cell? ⟨g, i' * 3 + 2, none⟩ = some (.int .i64 x.k) ∧
            X.cell? ⟨g, p * 3, none⟩ = some (.int .i64 y.s) ∧ X.cell? ⟨g, p * 3 + 1, none⟩ = some (.int .i64 y.e) ∧ X.cell? ⟨g, p * 3 + 2, none⟩ = some (.int .i64 y.k) := fun X hX =>
          ⟨(hX.1.cell (p := ⟨g, i' * 3, none⟩) hglt).trans p1, (hX.1.cell (p := ⟨g, i' * 3 + 1, none⟩) hglt).trans p2, (hX.1.cell (p := ⟨g, i' * 3 + 2, none⟩) hglt).trans p3,
            (hX.1.cell (p := ⟨g, p * 3, none⟩) hglt).trans q1, (hX.1.cell (p := ⟨g, p * 3 + 1, none⟩) hglt).trans q2, (hX.1.cell (p := ⟨g, p * 3 + 2, none⟩) hglt).trans q3⟩
        rw [HLL.out]
        clear p1 p2 p3 q1 q2 q3 hx hy
        by_cases hlt : tlt x y = true
        · go_wp2
          refine wp_region_held_drew (S := Env wr []) (by kernel_rfl) (by (first | assumption | exact Env.step (by assumption) (by assumption) | exact Env.old (by assumption) _ | exact Env.drew hE | exact hE | exact Env.drew (by assumption) | exact Env.drew (Env.old (by assumption) _) | ((repeat first | refine Env.far0 ?_ (by assumption) _ | refine Env.far1 ?_ (by assumption) _ | refine Env.farA ?_ (by assumption) _); assumption))) (fun hHeld => ?_)
          refine hTake 0 (by kernel_rfl) (by kernel_rfl) (by kernel_rfl) (by decide) (by assumption) ?_; (intro oi hoi; simp only [List.getElem?_toArray, List.getElem?_cons_zero] at hoi; obtain rfl := Option.some.inj hoi; clear hoi); refine ⟨rfl, ?_⟩; apply Exists.intro; refine ⟨?_, fun _ _ _ h => h, ?_⟩; (intro w hSw; (try dsimp only at hSw); go_simp; (try with_reducible rfl)); (try simp only [Act.put, List.setIfInBounds_toArray, List.set_cons_zero, List.set_cons_succ]); refine hTake 1 (by kernel_rfl) (by kernel_rfl) (by kernel_rfl) (by decide) (by assumption) ?_; (intro oi hoi; simp only [List.getElem?_toArray, List.getElem?_cons_succ, List.getElem?_cons_zero] at hoi; obtain rfl := Option.some.inj hoi; clear hoi); refine ⟨rfl, ?_⟩; apply Exists.intro; refine ⟨?_, fun _ _ _ h => h, ?_⟩; (intro w hSw; (try dsimp only at hSw); go_simp; (try with_reducible rfl)); (try simp only [Act.put, List.setIfInBounds_toArray, List.set_cons_zero, List.set_cons_succ]); refine hTake 2 (by kernel_rfl) (by kernel_rfl) (by kernel_rfl) (by decide) (by assumption) ?_; (intro oi hoi; simp only [List.getElem?_toArray, List.getElem?_cons_succ, List.getElem?_cons_zero] at hoi; obtain rfl := Option.some.inj hoi; clear hoi); refine ⟨rfl, ?_⟩; apply Exists.intro; refine ⟨?_, fun _ _ _ h => h, ?_⟩; (intro w hSw; (try dsimp only at hSw); go_simp; (try with_reducible rfl)); (try simp only [Act.put, List.setIfInBounds_toArray, List.set_cons_zero, List.set_cons_succ]); refine hTake 3 (by kernel_rfl) (by kernel_rfl) (by kernel_rfl) (by decide) (by assumption) ?_; (intro oi hoi; simp only [List.getElem?_toArray, List.getElem?_cons_succ, List.getElem?_cons_zero] at hoi; obtain rfl := Option.some.inj hoi; clear hoi); refine ⟨rfl, ?_⟩; apply Exists.intro; refine ⟨?_, fun _ _ _ h => h, ?_⟩; (intro w hSw; (try dsimp only at hSw); go_simp; (try with_reducible rfl)); (try simp only [Act.put, List.setIfInBounds_toArray, List.set_cons_zero, List.set_cons_succ]); refine hTake 4 (by kernel_rfl) (by kernel_rfl) (by kernel_rfl) (by decide) (by assumption) ?_; (intro oi hoi; simp only [List.getElem?_toArray, List.getElem?_cons_succ, List.getElem?_cons_zero] at hoi; obtain rfl := Option.some.inj hoi; clear hoi); refine ⟨rfl, ?_⟩; apply Exists.intro; refine ⟨?_, fun _ _ _ h => h, ?_⟩; (intro w hSw; (try dsimp only at hSw); go_simp; (try with_reducible rfl)); (try simp only [Act.put, List.setIfInBounds_toArray, List.set_cons_zero, List.set_cons_succ]); refine hTake 5 (by kernel_rfl) (by kernel_rfl) (by kernel_rfl) (by decide) (by assumption) ?_; (intro oi hoi; simp only [List.getElem?_toArray, List.getElem?_cons_succ, List.getElem?_cons_zero] at hoi; obtain rfl := Option.some.inj hoi; clear hoi); refine ⟨rfl, ?_⟩; apply Exists.intro; refine ⟨?_, fun _ _ _ h => h, ?_⟩; (intro w hSw; (try dsimp only at hSw); go_simp; (try with_reducible rfl)); (try simp only [Act.put, List.setIfInBounds_toArray, List.set_cons_zero, List.set_cons_succ]); refine hTake 6 (by kernel_rfl) (by kernel_rfl) (by kernel_rfl) (by decide) (by assumption) ?_; (intro oi hoi; simp only [List.getElem?_toArray, List.getElem?_cons_succ, List.getElem?_cons_zero] at hoi; obtain rfl := Option.some.inj hoi; clear hoi); refine ⟨rfl, ?_⟩; apply Exists.intro; refine ⟨?_, fun _ _ _ h => h, ?_⟩; (intro w hSw; (try dsimp only at hSw); go_simp; (try with_reducible rfl)); (try simp only [Act.put, List.setIfInBounds_toArray, List.set_cons_zero, List.set_cons_succ]); refine hTake 7 (by kernel_rfl) (by kernel_rfl) (by kernel_rfl) (by decide) (by assumption) ?_; (intro oi hoi; simp only [List.getElem?_toArray, List.getElem?_cons_succ, List.getElem?_cons_zero] at hoi; obtain rfl := Option.some.inj hoi; clear hoi); refine ⟨rfl, ?_⟩; apply Exists.intro; refine ⟨?_, fun _ _ _ h => h, ?_⟩; (intro w hSw; (try dsimp only at hSw); go_simp; (try with_reducible rfl)); (try simp only [Act.put, List.setIfInBounds_toArray, List.set_cons_zero, List.set_cons_succ])
          refine hOnly 8 (by kernel_rfl) (by decide) ?_; (intro oi hoi; simp only [List.getElem?_toArray, List.getElem?_cons_succ, List.getElem?_cons_zero] at hoi; obtain rfl := Option.some.inj hoi; clear hoi); intro K hK; go_simp
          go_at_call 29
          refine (rtless_any x y _).mono ?_
          rintro e w3 ⟨rfl, hb3⟩
          have hEhb3 := Env.step hb3 (by assumption); (try (have hqhb3 := (by with_reducible first | exact Loc.below hb3 (Loc.new (Loc.nil _) _ _) | exact Loc.below hb3 (Loc.drew (Loc.new (Loc.nil _) _ _)) | exact Loc.below hb3 (by assumption : Loc _ [_])); (repeat rw [World.size_drew] at hqhb3); (repeat rw [World.size_alloc] at hqhb3); have hrhb3 := hqhb3; (repeat unfold Loc at hrhb3)))
          (refine hK.out _ _ (by (first | assumption | exact Env.step (by assumption) (by assumption) | exact Env.old (by assumption) _ | exact Env.drew hE | exact hE | exact Env.drew (by assumption) | exact Env.drew (Env.old (by assumption) _) | ((repeat first | refine Env.far0 ?_ (by assumption) _ | refine Env.far1 ?_ (by assumption) _ | refine Env.farA ?_ (by assumption) _); assumption))) (fun hHeld => ?_); clear hK K; (try simp only [Act.put, List.setIfInBounds_toArray, List.set_cons_zero, List.set_cons_succ]))
          refine hTake 9 (by kernel_rfl) (by kernel_rfl) (by kernel_rfl) (by decide) (by assumption) ?_; (intro oi hoi; simp only [List.getElem?_toArray, List.getElem?_cons_succ, List.getElem?_cons_zero] at hoi; obtain rfl := Option.some.inj hoi; clear hoi); refine ⟨rfl, ?_⟩; apply Exists.intro; refine ⟨?_, fun _ _ _ h => h, ?_⟩; (intro w hSw; (try dsimp only at hSw); go_simp; (try with_reducible rfl)); (try simp only [Act.put, List.setIfInBounds_toArray, List.set_cons_zero, List.set_cons_succ])
          refine wpAnyH_done (by kernel_rfl) ?_ _
          obtain ⟨m2, e1, e2⟩ := up_step (lt := tlt) (d := t0) (by omega) him (by rw [GX.out, ← HP.out, GY.out]; exact hlt)
          rw [← HP.out] at e1 e2
          have E1 := Lib.hid e1
          clear e1
          have hrd := Own.rd (enc := tenc) (sz := 3) tenc_len (hown.below hHeld.1)
          have hb3' := below_then hb hHeld.1
          go_wp2_with (go_at_call 105; refine (rswapped_len (some ⟨g, 0, none⟩) cap (n + 1) l' i' p _ HLL.out hin (by omega) (by omega) (by omega) hrd).mono ?_; rintro e w4 ⟨v4, rfl, hown4, hb4⟩)
          go_roundw
          case rel => exact ⟨m2, p, sw t0 l' i' p, rfl, e2, by rw [sw_length, HLL.out], by omega, by rw [← E1.out, HUP.out], hown4.mono hb3'.size, below_then hb3' hb4⟩
          case measure => simp [intOf]; omega
        · have hlt' : tlt x y = false := by simpa using hlt
          have hz : up tlt t0 m l' i' = l' := up_stop _ _ (by rw [GX.out, ← HP.out, GY.out]; intro h; exact hlt h.2)
          have HZ := Lib.hid hz
          clear hz hlt
          go_wp2
          refine wp_region_held_drew (S := Env wr []) (by kernel_rfl) (by (first | assumption | exact Env.step (by assumption) (by assumption) | exact Env.old (by assumption) _ | exact Env.drew hE | exact hE | exact Env.drew (by assumption) | exact Env.drew (Env.old (by assumption) _) | ((repeat first | refine Env.far0 ?_ (by assumption) _ | refine Env.far1 ?_ (by assumption) _ | refine Env.farA ?_ (by assumption) _); assumption))) (fun hHeld => ?_)
          refine hTake 0 (by kernel_rfl) (by kernel_rfl) (by kernel_rfl) (by decide) (by assumption) ?_; (intro oi hoi; simp only [List.getElem?_toArray, List.getElem?_cons_zero] at hoi; obtain rfl := Option.some.inj hoi; clear hoi); refine ⟨rfl, ?_⟩; apply Exists.intro; refine ⟨?_, fun _ _ _ h => h, ?_⟩; (intro w hSw; (try dsimp only at hSw); go_simp; (try with_reducible rfl)); (try simp only [Act.put, List.setIfInBounds_toArray, List.set_cons_zero, List.set_cons_succ]); refine hTake 1 (by kernel_rfl) (by kernel_rfl) (by kernel_rfl) (by decide) (by assumption) ?_; (intro oi hoi; simp only [List.getElem?_toArray, List.getElem?_cons_succ, List.getElem?_cons_zero] at hoi; obtain rfl := Option.some.inj hoi; clear hoi); refine ⟨rfl, ?_⟩; apply Exists.intro; refine ⟨?_, fun _ _ _ h => h, ?_⟩; (intro w hSw; (try dsimp only at hSw); go_simp; (try with_reducible rfl)); (try simp only [Act.put, List.setIfInBounds_toArray, List.set_cons_zero, List.set_cons_succ]); refine hTake 2 (by kernel_rfl) (by kernel_rfl) (by kernel_rfl) (by decide) (by assumption) ?_; (intro oi hoi; simp only [List.getElem?_toArray, List.getElem?_cons_succ, List.getElem?_cons_zero] at hoi; obtain rfl := Option.some.inj hoi; clear hoi); refine ⟨rfl, ?_⟩; apply Exists.intro; refine ⟨?_, fun _ _ _ h => h, ?_⟩; (intro w hSw; (try dsimp only at hSw); go_simp; (try with_reducible rfl)); (try simp only [Act.put, List.setIfInBounds_toArray, List.set_cons_zero, List.set_cons_succ]); refine hTake 3 (by kernel_rfl) (by kernel_rfl) (by kernel_rfl) (by decide) (by assumption) ?_; (intro oi hoi; simp only [List.getElem?_toArray, List.getElem?_cons_succ, List.getElem?_cons_zero] at hoi; obtain rfl := Option.some.inj hoi; clear hoi); refine ⟨rfl, ?_⟩; apply Exists.intro; refine ⟨?_, fun _ _ _ h => h, ?_⟩; (intro w hSw; (try dsimp only at hSw); go_simp; (try with_reducible rfl)); (try simp only [Act.put, List.setIfInBounds_toArray, List.set_cons_zero, List.set_cons_succ]); refine hTake 4 (by kernel_rfl) (by kernel_rfl) (by kernel_rfl) (by decide) (by assumption) ?_; (intro oi hoi; simp only [List.getElem?_toArray, List.getElem?_cons_succ, List.getElem?_cons_zero] at hoi; obtain rfl := Option.some.inj hoi; clear hoi); refine ⟨rfl, ?_⟩; apply Exists.intro; refine ⟨?_, fun _ _ _ h => h, ?_⟩; (intro w hSw; (try dsimp only at hSw); go_simp; (try with_reducible rfl)); (try simp only [Act.put, List.setIfInBounds_toArray, List.set_cons_zero, List.set_cons_succ]); refine hTake 5 (by kernel_rfl) (by kernel_rfl) (by kernel_rfl) (by decide) (by assumption) ?_; (intro oi hoi; simp only [List.getElem?_toArray, List.getElem?_cons_succ, List.getElem?_cons_zero] at hoi; obtain rfl := Option.some.inj hoi; clear hoi); refine ⟨rfl, ?_⟩; apply Exists.intro; refine ⟨?_, fun _ _ _ h => h, ?_⟩; (intro w hSw; (try dsimp only at hSw); go_simp; (try with_reducible rfl)); (try simp only [Act.put, List.setIfInBounds_toArray, List.set_cons_zero, List.set_cons_succ]); refine hTake 6 (by kernel_rfl) (by kernel_rfl) (by kernel_rfl) (by decide) (by assumption) ?_; (intro oi hoi; simp only [List.getElem?_toArray, List.getElem?_cons_succ, List.getElem?_cons_zero] at hoi; obtain rfl := Option.some.inj hoi; clear hoi); refine ⟨rfl, ?_⟩; apply Exists.intro; refine ⟨?_, fun _ _ _ h => h, ?_⟩; (intro w hSw; (try dsimp only at hSw); go_simp; (try with_reducible rfl)); (try simp only [Act.put, List.setIfInBounds_toArray, List.set_cons_zero, List.set_cons_succ]); refine hTake 7 (by kernel_rfl) (by kernel_rfl) (by kernel_rfl) (by decide) (by assumption) ?_; (intro oi hoi; simp only [List.getElem?_toArray, List.getElem?_cons_succ, List.getElem?_cons_zero] at hoi; obtain rfl := Option.some.inj hoi; clear hoi); refine ⟨rfl, ?_⟩; apply Exists.intro; refine ⟨?_, fun _ _ _ h => h, ?_⟩; (intro w hSw; (try dsimp only at hSw); go_simp; (try with_reducible rfl)); (try simp only [Act.put, List.setIfInBounds_toArray, List.set_cons_zero, List.set_cons_succ])
          refine hOnly 8 (by kernel_rfl) (by decide) ?_; (intro oi hoi; simp only [List.getElem?_toArray, List.getElem?_cons_succ, List.getElem?_cons_zero] at hoi; obtain rfl := Option.some.inj hoi; clear hoi); intro K hK; go_simp
          go_at_call 29
          refine (rtless_any x y _).mono ?_
          rintro e w3 ⟨rfl, hb3⟩
          have hEhb3 := Env.step hb3 (by assumption); (try (have hqhb3 := (by with_reducible first | exact Loc.below hb3 (Loc.new (Loc.nil _) _ _) | exact Loc.below hb3 (Loc.drew (Loc.new (Loc.nil _) _ _)) | exact Loc.below hb3 (by assumption : Loc _ [_])); (repeat rw [World.size_drew] at hqhb3); (repeat rw [World.size_alloc] at hqhb3); have hrhb3 := hqhb3; (repeat unfold Loc at hrhb3)))
          (refine hK.out _ _ (by (first | assumption | exact Env.step (by assumption) (by assumption) | exact Env.old (by assumption) _ | exact Env.drew hE | exact hE | exact Env.drew (by assumption) | exact Env.drew (Env.old (by assumption) _) | ((repeat first | refine Env.far0 ?_ (by assumption) _ | refine Env.far1 ?_ (by assumption) _ | refine Env.farA ?_ (by assumption) _); assumption))) (fun hHeld => ?_); clear hK K; (try simp only [Act.put, List.setIfInBounds_toArray, List.set_cons_zero, List.set_cons_succ]))
          refine hTake 9 (by kernel_rfl) (by kernel_rfl) (by kernel_rfl) (by decide) (by assumption) ?_; (intro oi hoi; simp only [List.getElem?_toArray, List.getElem?_cons_succ, List.getElem?_cons_zero] at hoi; obtain rfl := Option.some.inj hoi; clear hoi); refine ⟨rfl, ?_⟩; apply Exists.intro; refine ⟨?_, fun _ _ _ h => h, ?_⟩; (intro w hSw; (try dsimp only at hSw); go_simp; (try with_reducible rfl)); (try simp only [Act.put, List.setIfInBounds_toArray, List.set_cons_zero, List.set_cons_succ])
          refine wpAnyH_done (by kernel_rfl) ?_ _
          have hown5 := hown.below hHeld.1
          have hb3' := below_then hb hHeld.1
          rw [HLL.out] at hown5
          go_wp2
          go_ret
          exact ⟨_, rfl, by rw [← HUP.out, HZ.out]; exact hown5, hb3'⟩
end Go.Proofs.Ytffehibdeogjeaa
