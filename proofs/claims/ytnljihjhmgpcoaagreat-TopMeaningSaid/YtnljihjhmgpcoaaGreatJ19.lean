/- Lemmas and contracts for the statement, joined into one text: SessSort. The conditions of each stand at its head. -/
import Derived.Test.YtnljihjhmgpcoaaGreatJ17
import Derived.Test.YtnljihjhmgpcoaaGreatJ4
import Derived.Test.YtnljihjhmgpcoaaGreatJ18
import Derived.Test.YtnljihjhmgpcoaaGreatJ5
import Derived.Shelf.SlSortCmp.WholeK
namespace Go.Proofs.YtnljihjhmgpcoaaGreat
open Go.RowKit Go.Sort Go.Shelf
theorem senc_len' (x : Int × Int) : (senc x).length = 2 := rfl
def cmpS (x y : Int × Int) : Int := cmpI x.1 y.1
theorem ltS (x y : Int × Int) : ltOf cmpS x y = decide (x.1 < y.1) := by
 unfold ltOf cmpS cmpI
 grind
theorem swoS : SWO (ltOf cmpS) where
 irrefl x := by rw [ltS]; simp
 trans x y z h1 h2 := by rw [ltS] at *; simp at *; omega
 ntrans x y z h1 h2 := by rw [ltS] at *; simp at *; omega
set_option maxHeartbeats 1000000 in
theorem cloS_any (x y : Int × Int) (W : World) : Calls Tryz.prog 127 #[.agg #[.int .i64 x.1, .int .i64 x.2], .agg #[.int .i64 y.1, .int .i64 y.2]] W fun e w' => e = .returned (.int .i64 (cmpS x y)) ∧ ∃ q os', w' = grow (W.drewN q) os' := by
 have hc := Lib.hid (show cmpI x.1 y.1 = cmpS x y from rfl)
 go_enter Tryz.func127, Tryz.ntmps127
 go_wp2_with (go_at_call 43; refine (cmp_any _ _ _).mono ?_; rintro e w' ⟨rfl, rfl⟩)
 go_ret
 exact ⟨by rw [hc.out]; rfl, 0, _, by rw [alloc_eq_grow, alloc_eq_grow, grow_grow]; rfl⟩
theorem sp_agg (w : World) : (isAgg 59).run Tryz.prog w = .ok true w := by kernel_rfl
theorem sp_size (w : World) : (Go.sizeOf 59).run Tryz.prog w = .ok 2 w := by kernel_rfl
set_option maxHeartbeats 2000000 in
/-- Spans sorted by their starts, in place. -/
theorem sortS_any (g n cap base : Nat) (l : List (Int × Int)) (w : World) (hl : l.length = n) (hn : n ≤ 1099511627776) (hown : Own senc 2 w base 59 (.slice (some ⟨g, 0, none⟩) n cap) l) :
  Calls Tryz.prog 126 #[.slice (some ⟨g, 0, none⟩) n cap, .func (.func 127) #[] #[]] w fun e w' => e = .returned (.tuple #[]) ∧
   ∃ l', l'.Perm l ∧ (l'.Pairwise fun a b => a.1 ≤ b.1) ∧ Own senc 2 w' base 59 (.slice (some ⟨g, 0, none⟩) n cap) l' ∧ w.grownBy w' (some g) := by
 have eg : ∀ args w, (callFunc 127 args).run Tryz.prog w = .ok (.enter 127 args) w := enters_of Tryz.func127 (by kernel_rfl) rfl
 have hcon := AnyQ.slices_SortFunc Tryz.sortSpan 2 sp_agg sp_size senc (fun _ => rfl) (fun x v hv => by simp [senc] at hv; rcases hv with rfl | rfl <;> rfl) cmpS swoS 127 #[] g 0 cap l.toArray w eg (fun _ _ _ _ x y => cloS_any x y _)
  (own_holds senc_len' hown hl.symm) (World.ownsRow.lt hown g rfl).2 (by simp; omega)
 change Calls Tryz.prog 126 _ _ _ at hcon
 rw [List.size_toArray, hl] at hcon
 refine hcon.mono ?_
 rintro e w' ⟨he, d', m, os, hp, hs, hw⟩
 have hsz : d'.size = n := by have := hp.1; simpa [hl] using this
 have hpl : d'.toList.Perm l := by
  have h := permIn_all (d := l.toArray) (d' := d') (by rw [List.size_toArray, hl]; exact hp)
  simpa using h
 have hso : d'.toList.Pairwise fun a b => ltOf cmpS b a = false := sortedIn_all (by rw [hsz]; exact hs)
 obtain ⟨o1, o2⟩ := own_sorted (l' := d'.toList) senc_len' hown hl.symm hpl.length_eq hw
 refine ⟨he, d'.toList, hpl, hso.imp (fun {a b} h => ?_), o1, o2⟩
 rw [ltS] at h
 simpa using h
end Go.Proofs.YtnljihjhmgpcoaaGreat
