/-
  No cell of these rows narrows 'for every input' (looked for: loops, veiled, ifaces, maps, wideKeys, modest, calm, conditions, laid).
  DERIVED. THE GIVEN ROWS OF THIS SEAT. 13 by the template 'for every input the law returns true; each argument reads behind the call as it read before'; 0 by the template 'total and deterministic' (their statements: YtbbdepeifdbbdaaTotals.lean).
  GIVEN WITH THE SEED: the statements are not yours to turn. If you find one false, say at which input.
  Laid BY PROGRAM, IN A SANDBOX (cutbox-rows.mjs): the forced cells as the released guide's own fill.sh prints them over the translation 07d4c47ac03158dc… (all of the seat's roots in one cut). By AI agents, Wed Nov 11 2026. No macro, syntax, notation, axiom, sorry.
-/
import Derived.Test.YtbbdepeifdbbdaaChecked
import GoSem.Claim
import GoSem.ClaimJoined
import GoSem.ClaimMapViews
import Derived.JoinedTies
import Derived.KernelRfl
namespace Go.Proofs.Ytbbdepeifdbbdaa
/- THE CELL 'sum', in the pinned program and in every row, IS THE sha256 OF THE DUMP (.gsa) THAT YtbbdepeifdbbdaaProg.lean LOADS. Nothing in Lean hashes anything: it is a label: what it is worth is what the hold of that sum in a sandbox is worth. -/
noncomputable def Try.pinned : Pinned := { name := "ytbbdepeifdbbdaa", sum := "07d4c47ac03158dc4841ce353251c16ad594fe6461601557e3d7fba7a47e50f9", checked := Try.checked }
namespace Rows
def none {H : Type} : Left H := { results := [], args := [] }

/-- 'tailwatertop.TopWindows': WHATEVER THE INPUT: true; the input reads as it did. -/
def topWindowsSpec : ChangeSpec := { name := "topWindows", fn := fun _ => fun
  | [d1, d2, d3] => { results := [.lit (.bool true)], args := [d1, d2, d3] }
  | _ => none }
def topWindowsRow : OpenClaim := { program := "ytbbdepeifdbbdaa", sum := "07d4c47ac03158dc4841ce353251c16ad594fe6461601557e3d7fba7a47e50f9", func := "tailwater/tailwatertop.TopWindows", spec := "topWindows", inPlace := ["slices.overlaps[tailwater/api.Entry]"], unfollowed := true, recurses := true, plainKeys := false, apart := false }
def TopWindowsSaid : Prop := topWindowsRow.holds Try.pinned (OpenSpec.ofChange topWindowsSpec)

/-- ITS FALSE NEIGHBOUR: 'it returns false'. Refute it at one input. -/
def topWindowsWrong : ChangeSpec := { name := "topWindows", fn := fun _ => fun
  | [d1, d2, d3] => { results := [.lit (.bool false)], args := [d1, d2, d3] }
  | _ => none }
def TopWindowsWrongFalsely : Prop := topWindowsRow.holds Try.pinned (OpenSpec.ofChange topWindowsWrong)

/-- 'tailwaterlaw19.PanesTells': WHATEVER THE INPUT: true; the input reads as it did. -/
def panesTellsSpec : ChangeSpec := { name := "panesTells", fn := fun _ => fun
  | [d1, d2, d3, d4, d5] => { results := [.lit (.bool true)], args := [d1, d2, d3, d4, d5] }
  | _ => none }
def panesTellsRow : OpenClaim := { program := "ytbbdepeifdbbdaa", sum := "07d4c47ac03158dc4841ce353251c16ad594fe6461601557e3d7fba7a47e50f9", func := "tailwater/tailwaterlaw19.PanesTells", spec := "panesTells", unfollowed := true, recurses := true, plainKeys := false, apart := false }
def PanesTellsSaid : Prop := panesTellsRow.holds Try.pinned (OpenSpec.ofChange panesTellsSpec)

/-- ITS FALSE NEIGHBOUR: 'it returns false'. Refute it at one input. -/
def panesTellsWrong : ChangeSpec := { name := "panesTells", fn := fun _ => fun
  | [d1, d2, d3, d4, d5] => { results := [.lit (.bool false)], args := [d1, d2, d3, d4, d5] }
  | _ => none }
def PanesTellsWrongFalsely : Prop := panesTellsRow.holds Try.pinned (OpenSpec.ofChange panesTellsWrong)

/-- 'tailwaterlaw19.PanesNames': WHATEVER THE INPUT: true; the input reads as it did. -/
def panesNamesSpec : ChangeSpec := { name := "panesNames", fn := fun _ => fun
  | [] => { results := [.lit (.bool true)], args := [] }
  | _ => none }
def panesNamesRow : OpenClaim := { program := "ytbbdepeifdbbdaa", sum := "07d4c47ac03158dc4841ce353251c16ad594fe6461601557e3d7fba7a47e50f9", func := "tailwater/tailwaterlaw19.PanesNames", spec := "panesNames", unfollowed := true, recurses := true, plainKeys := false, apart := false }
def PanesNamesSaid : Prop := panesNamesRow.holds Try.pinned (OpenSpec.ofChange panesNamesSpec)

/-- ITS FALSE NEIGHBOUR: 'it returns false'. Refute it at one input. -/
def panesNamesWrong : ChangeSpec := { name := "panesNames", fn := fun _ => fun
  | [] => { results := [.lit (.bool false)], args := [] }
  | _ => none }
def PanesNamesWrongFalsely : Prop := panesNamesRow.holds Try.pinned (OpenSpec.ofChange panesNamesWrong)

/-- 'tailwaterlaw19.PanesParts': WHATEVER THE INPUT: true; the input reads as it did. -/
def panesPartsSpec : ChangeSpec := { name := "panesParts", fn := fun _ => fun
  | [d1, d2] => { results := [.lit (.bool true)], args := [d1, d2] }
  | _ => none }
def panesPartsRow : OpenClaim := { program := "ytbbdepeifdbbdaa", sum := "07d4c47ac03158dc4841ce353251c16ad594fe6461601557e3d7fba7a47e50f9", func := "tailwater/tailwaterlaw19.PanesParts", spec := "panesParts", unfollowed := true, recurses := true, plainKeys := false, apart := false }
def PanesPartsSaid : Prop := panesPartsRow.holds Try.pinned (OpenSpec.ofChange panesPartsSpec)

/-- ITS FALSE NEIGHBOUR: 'it returns false'. Refute it at one input. -/
def panesPartsWrong : ChangeSpec := { name := "panesParts", fn := fun _ => fun
  | [d1, d2] => { results := [.lit (.bool false)], args := [d1, d2] }
  | _ => none }
def PanesPartsWrongFalsely : Prop := panesPartsRow.holds Try.pinned (OpenSpec.ofChange panesPartsWrong)

/-- 'tailwaterlaw19.PanesDivide': WHATEVER THE INPUT: true; the input reads as it did. -/
def panesDivideSpec : ChangeSpec := { name := "panesDivide", fn := fun _ => fun
  | [d1, d2, d3] => { results := [.lit (.bool true)], args := [d1, d2, d3] }
  | _ => none }
def panesDivideRow : OpenClaim := { program := "ytbbdepeifdbbdaa", sum := "07d4c47ac03158dc4841ce353251c16ad594fe6461601557e3d7fba7a47e50f9", func := "tailwater/tailwaterlaw19.PanesDivide", spec := "panesDivide", unfollowed := true, recurses := true, plainKeys := false, apart := false }
def PanesDivideSaid : Prop := panesDivideRow.holds Try.pinned (OpenSpec.ofChange panesDivideSpec)

/-- ITS FALSE NEIGHBOUR: 'it returns false'. Refute it at one input. -/
def panesDivideWrong : ChangeSpec := { name := "panesDivide", fn := fun _ => fun
  | [d1, d2, d3] => { results := [.lit (.bool false)], args := [d1, d2, d3] }
  | _ => none }
def PanesDivideWrongFalsely : Prop := panesDivideRow.holds Try.pinned (OpenSpec.ofChange panesDivideWrong)

/-- 'tailwaterlaw19.PanesCommon': WHATEVER THE INPUT: true; the input reads as it did. -/
def panesCommonSpec : ChangeSpec := { name := "panesCommon", fn := fun _ => fun
  | [d1, d2] => { results := [.lit (.bool true)], args := [d1, d2] }
  | _ => none }
def panesCommonRow : OpenClaim := { program := "ytbbdepeifdbbdaa", sum := "07d4c47ac03158dc4841ce353251c16ad594fe6461601557e3d7fba7a47e50f9", func := "tailwater/tailwaterlaw19.PanesCommon", spec := "panesCommon", unfollowed := true, recurses := true, plainKeys := false, apart := false }
def PanesCommonSaid : Prop := panesCommonRow.holds Try.pinned (OpenSpec.ofChange panesCommonSpec)

/-- ITS FALSE NEIGHBOUR: 'it returns false'. Refute it at one input. -/
def panesCommonWrong : ChangeSpec := { name := "panesCommon", fn := fun _ => fun
  | [d1, d2] => { results := [.lit (.bool false)], args := [d1, d2] }
  | _ => none }
def PanesCommonWrongFalsely : Prop := panesCommonRow.holds Try.pinned (OpenSpec.ofChange panesCommonWrong)

/-- 'tailwaterlaw17.StoreTells': WHATEVER THE INPUT: true; the input reads as it did. -/
def storeTellsSpec : ChangeSpec := { name := "storeTells", fn := fun _ => fun
  | [d1, d2, d3, d4, d5] => { results := [.lit (.bool true)], args := [d1, d2, d3, d4, d5] }
  | _ => none }
def storeTellsRow : OpenClaim := { program := "ytbbdepeifdbbdaa", sum := "07d4c47ac03158dc4841ce353251c16ad594fe6461601557e3d7fba7a47e50f9", func := "tailwater/tailwaterlaw17.StoreTells", spec := "storeTells", inPlace := ["slices.overlaps[tailwater/api.Entry]"], unfollowed := true, recurses := true, plainKeys := false, apart := false }
def StoreTellsSaid : Prop := storeTellsRow.holds Try.pinned (OpenSpec.ofChange storeTellsSpec)

/-- ITS FALSE NEIGHBOUR: 'it returns false'. Refute it at one input. -/
def storeTellsWrong : ChangeSpec := { name := "storeTells", fn := fun _ => fun
  | [d1, d2, d3, d4, d5] => { results := [.lit (.bool false)], args := [d1, d2, d3, d4, d5] }
  | _ => none }
def StoreTellsWrongFalsely : Prop := storeTellsRow.holds Try.pinned (OpenSpec.ofChange storeTellsWrong)

/-- 'tailwaterlaw17.StoreNames': WHATEVER THE INPUT: true; the input reads as it did. -/
def storeNamesSpec : ChangeSpec := { name := "storeNames", fn := fun _ => fun
  | [] => { results := [.lit (.bool true)], args := [] }
  | _ => none }
def storeNamesRow : OpenClaim := { program := "ytbbdepeifdbbdaa", sum := "07d4c47ac03158dc4841ce353251c16ad594fe6461601557e3d7fba7a47e50f9", func := "tailwater/tailwaterlaw17.StoreNames", spec := "storeNames", inPlace := ["slices.overlaps[tailwater/api.Entry]"], unfollowed := true, recurses := true, plainKeys := false, apart := false }
def StoreNamesSaid : Prop := storeNamesRow.holds Try.pinned (OpenSpec.ofChange storeNamesSpec)

/-- ITS FALSE NEIGHBOUR: 'it returns false'. Refute it at one input. -/
def storeNamesWrong : ChangeSpec := { name := "storeNames", fn := fun _ => fun
  | [] => { results := [.lit (.bool false)], args := [] }
  | _ => none }
def StoreNamesWrongFalsely : Prop := storeNamesRow.holds Try.pinned (OpenSpec.ofChange storeNamesWrong)

/-- 'tailwaterlaw17.StoreOne': WHATEVER THE INPUT: true; the input reads as it did. -/
def storeOneSpec : ChangeSpec := { name := "storeOne", fn := fun _ => fun
  | [d1, d2, d3] => { results := [.lit (.bool true)], args := [d1, d2, d3] }
  | _ => none }
def storeOneRow : OpenClaim := { program := "ytbbdepeifdbbdaa", sum := "07d4c47ac03158dc4841ce353251c16ad594fe6461601557e3d7fba7a47e50f9", func := "tailwater/tailwaterlaw17.StoreOne", spec := "storeOne", inPlace := ["slices.overlaps[tailwater/api.Entry]"], unfollowed := true, recurses := true, plainKeys := false, apart := false }
def StoreOneSaid : Prop := storeOneRow.holds Try.pinned (OpenSpec.ofChange storeOneSpec)

/-- ITS FALSE NEIGHBOUR: 'it returns false'. Refute it at one input. -/
def storeOneWrong : ChangeSpec := { name := "storeOne", fn := fun _ => fun
  | [d1, d2, d3] => { results := [.lit (.bool false)], args := [d1, d2, d3] }
  | _ => none }
def StoreOneWrongFalsely : Prop := storeOneRow.holds Try.pinned (OpenSpec.ofChange storeOneWrong)

/-- 'tailwaterlaw17.StoreHas': WHATEVER THE INPUT: true; the input reads as it did. -/
def storeHasSpec : ChangeSpec := { name := "storeHas", fn := fun _ => fun
  | [d1, d2] => { results := [.lit (.bool true)], args := [d1, d2] }
  | _ => none }
def storeHasRow : OpenClaim := { program := "ytbbdepeifdbbdaa", sum := "07d4c47ac03158dc4841ce353251c16ad594fe6461601557e3d7fba7a47e50f9", func := "tailwater/tailwaterlaw17.StoreHas", spec := "storeHas", inPlace := ["slices.overlaps[tailwater/api.Entry]"], unfollowed := true, recurses := true, plainKeys := false, apart := false }
def StoreHasSaid : Prop := storeHasRow.holds Try.pinned (OpenSpec.ofChange storeHasSpec)

/-- ITS FALSE NEIGHBOUR: 'it returns false'. Refute it at one input. -/
def storeHasWrong : ChangeSpec := { name := "storeHas", fn := fun _ => fun
  | [d1, d2] => { results := [.lit (.bool false)], args := [d1, d2] }
  | _ => none }
def StoreHasWrongFalsely : Prop := storeHasRow.holds Try.pinned (OpenSpec.ofChange storeHasWrong)

/-- 'tailwaterlaw17.StoreFires': WHATEVER THE INPUT: true; the input reads as it did. -/
def storeFiresSpec : ChangeSpec := { name := "storeFires", fn := fun _ => fun
  | [d1, d2, d3] => { results := [.lit (.bool true)], args := [d1, d2, d3] }
  | _ => none }
def storeFiresRow : OpenClaim := { program := "ytbbdepeifdbbdaa", sum := "07d4c47ac03158dc4841ce353251c16ad594fe6461601557e3d7fba7a47e50f9", func := "tailwater/tailwaterlaw17.StoreFires", spec := "storeFires", inPlace := ["slices.overlaps[tailwater/api.Entry]"], unfollowed := true, recurses := true, plainKeys := false, apart := false }
def StoreFiresSaid : Prop := storeFiresRow.holds Try.pinned (OpenSpec.ofChange storeFiresSpec)

/-- ITS FALSE NEIGHBOUR: 'it returns false'. Refute it at one input. -/
def storeFiresWrong : ChangeSpec := { name := "storeFires", fn := fun _ => fun
  | [d1, d2, d3] => { results := [.lit (.bool false)], args := [d1, d2, d3] }
  | _ => none }
def StoreFiresWrongFalsely : Prop := storeFiresRow.holds Try.pinned (OpenSpec.ofChange storeFiresWrong)

/-- 'tailwaterlaw17.StoreKeys': WHATEVER THE INPUT: true; the input reads as it did. -/
def storeKeysSpec : ChangeSpec := { name := "storeKeys", fn := fun _ => fun
  | [d1, d2, d3, d4] => { results := [.lit (.bool true)], args := [d1, d2, d3, d4] }
  | _ => none }
def storeKeysRow : OpenClaim := { program := "ytbbdepeifdbbdaa", sum := "07d4c47ac03158dc4841ce353251c16ad594fe6461601557e3d7fba7a47e50f9", func := "tailwater/tailwaterlaw17.StoreKeys", spec := "storeKeys", inPlace := ["slices.overlaps[tailwater/api.Entry]"], unfollowed := true, recurses := true, plainKeys := false, apart := false }
def StoreKeysSaid : Prop := storeKeysRow.holds Try.pinned (OpenSpec.ofChange storeKeysSpec)

/-- ITS FALSE NEIGHBOUR: 'it returns false'. Refute it at one input. -/
def storeKeysWrong : ChangeSpec := { name := "storeKeys", fn := fun _ => fun
  | [d1, d2, d3, d4] => { results := [.lit (.bool false)], args := [d1, d2, d3, d4] }
  | _ => none }
def StoreKeysWrongFalsely : Prop := storeKeysRow.holds Try.pinned (OpenSpec.ofChange storeKeysWrong)

/-- 'tailwaterlaw19.PanesSame': WHATEVER THE INPUT: true; the input reads as it did. -/
def panesSameSpec : ChangeSpec := { name := "panesSame", fn := fun _ => fun
  | [d1, d2] => { results := [.lit (.bool true)], args := [d1, d2] }
  | _ => none }
def panesSameRow : OpenClaim := { program := "ytbbdepeifdbbdaa", sum := "07d4c47ac03158dc4841ce353251c16ad594fe6461601557e3d7fba7a47e50f9", func := "tailwater/tailwaterlaw19.PanesSame", spec := "panesSame", inPlace := ["slices.overlaps[tailwater/api.Entry]"], unfollowed := true, recurses := true, plainKeys := false, apart := false }
def PanesSameSaid : Prop := panesSameRow.holds Try.pinned (OpenSpec.ofChange panesSameSpec)

/-- ITS FALSE NEIGHBOUR: 'it returns false'. Refute it at one input. -/
def panesSameWrong : ChangeSpec := { name := "panesSame", fn := fun _ => fun
  | [d1, d2] => { results := [.lit (.bool false)], args := [d1, d2] }
  | _ => none }
def PanesSameWrongFalsely : Prop := panesSameRow.holds Try.pinned (OpenSpec.ofChange panesSameWrong)

/- THE SECOND FORM. 'bulk': how many values and letters a reading holds, each counted each time it is reached (what is shared counts as often as it is met; a slice's spare places count too). A statement '..UptoSaid' is the law's where the arguments, and the package variables that the reading takes, are together of bulk at most 1048576: NARROWER than '..Said'. Prove '..Said' where nothing that the law and all that it calls make is longer than what came in: it says more and counts as full. Else prove '..UptoSaid'. A law counts once. -/
mutual
def uptoBulk {H : Type} : DataW H → Nat
  | .lit (.string bytes) => bytes.length + 1
  | .lit _ => 1
  | .nil => 1
  | .ptr d => uptoBulk d + 1
  | .slice elems spare => uptoBulkAll elems + uptoBulkAll spare + 1
  | .agg parts => uptoBulkAll parts + 1
  | .iface _ d => uptoBulk d + 1
  | .map entries => uptoBulkEntries entries + 1
  | .held _ => 1
def uptoBulkAll {H : Type} : List (DataW H) → Nat
  | [] => 0
  | d :: r => uptoBulk d + uptoBulkAll r
def uptoBulkEntries {H : Type} : List (Lit × DataW H) → Nat
  | [] => 0
  | x :: r => uptoBulkEntry x + uptoBulkEntries r
def uptoBulkEntry {H : Type} : Lit × DataW H → Nat
  | (.string bytes, d) => bytes.length + uptoBulk d + 1
  | (_, d) => uptoBulk d + 1
 end
def uptoSmall : (H : Type) → List (DataW H) → Bool := fun _ ds => decide (uptoBulkAll ds ≤ 1048576)
def OpenSpec.upto (s : _root_.Go.ChangeSpec) : _root_.Go.OpenSpec := { _root_.Go.OpenSpec.ofChange s with cond := some uptoSmall }

/-- 'tailwatertop.TopWindows', WHERE WHAT IT READS IS OF BULK AT MOST 1048576: true; the input reads as it did. -/
def topWindowsUptoRow : OpenClaim := { program := "ytbbdepeifdbbdaa", sum := "07d4c47ac03158dc4841ce353251c16ad594fe6461601557e3d7fba7a47e50f9", func := "tailwater/tailwatertop.TopWindows", spec := "topWindows", inPlace := ["slices.overlaps[tailwater/api.Entry]"], unfollowed := true, recurses := true, plainKeys := false, apart := false, narrowed := true }
def TopWindowsUptoSaid : Prop := topWindowsUptoRow.holds Try.pinned (OpenSpec.upto topWindowsSpec)

/-- 'tailwaterlaw19.PanesTells', WHERE WHAT IT READS IS OF BULK AT MOST 1048576: true; the input reads as it did. -/
def panesTellsUptoRow : OpenClaim := { program := "ytbbdepeifdbbdaa", sum := "07d4c47ac03158dc4841ce353251c16ad594fe6461601557e3d7fba7a47e50f9", func := "tailwater/tailwaterlaw19.PanesTells", spec := "panesTells", unfollowed := true, recurses := true, plainKeys := false, apart := false, narrowed := true }
def PanesTellsUptoSaid : Prop := panesTellsUptoRow.holds Try.pinned (OpenSpec.upto panesTellsSpec)

/-- 'tailwaterlaw19.PanesNames', WHERE WHAT IT READS IS OF BULK AT MOST 1048576: true; the input reads as it did. -/
def panesNamesUptoRow : OpenClaim := { program := "ytbbdepeifdbbdaa", sum := "07d4c47ac03158dc4841ce353251c16ad594fe6461601557e3d7fba7a47e50f9", func := "tailwater/tailwaterlaw19.PanesNames", spec := "panesNames", unfollowed := true, recurses := true, plainKeys := false, apart := false, narrowed := true }
def PanesNamesUptoSaid : Prop := panesNamesUptoRow.holds Try.pinned (OpenSpec.upto panesNamesSpec)

/-- 'tailwaterlaw19.PanesParts', WHERE WHAT IT READS IS OF BULK AT MOST 1048576: true; the input reads as it did. -/
def panesPartsUptoRow : OpenClaim := { program := "ytbbdepeifdbbdaa", sum := "07d4c47ac03158dc4841ce353251c16ad594fe6461601557e3d7fba7a47e50f9", func := "tailwater/tailwaterlaw19.PanesParts", spec := "panesParts", unfollowed := true, recurses := true, plainKeys := false, apart := false, narrowed := true }
def PanesPartsUptoSaid : Prop := panesPartsUptoRow.holds Try.pinned (OpenSpec.upto panesPartsSpec)

/-- 'tailwaterlaw19.PanesDivide', WHERE WHAT IT READS IS OF BULK AT MOST 1048576: true; the input reads as it did. -/
def panesDivideUptoRow : OpenClaim := { program := "ytbbdepeifdbbdaa", sum := "07d4c47ac03158dc4841ce353251c16ad594fe6461601557e3d7fba7a47e50f9", func := "tailwater/tailwaterlaw19.PanesDivide", spec := "panesDivide", unfollowed := true, recurses := true, plainKeys := false, apart := false, narrowed := true }
def PanesDivideUptoSaid : Prop := panesDivideUptoRow.holds Try.pinned (OpenSpec.upto panesDivideSpec)

/-- 'tailwaterlaw19.PanesCommon', WHERE WHAT IT READS IS OF BULK AT MOST 1048576: true; the input reads as it did. -/
def panesCommonUptoRow : OpenClaim := { program := "ytbbdepeifdbbdaa", sum := "07d4c47ac03158dc4841ce353251c16ad594fe6461601557e3d7fba7a47e50f9", func := "tailwater/tailwaterlaw19.PanesCommon", spec := "panesCommon", unfollowed := true, recurses := true, plainKeys := false, apart := false, narrowed := true }
def PanesCommonUptoSaid : Prop := panesCommonUptoRow.holds Try.pinned (OpenSpec.upto panesCommonSpec)

/-- 'tailwaterlaw17.StoreTells', WHERE WHAT IT READS IS OF BULK AT MOST 1048576: true; the input reads as it did. -/
def storeTellsUptoRow : OpenClaim := { program := "ytbbdepeifdbbdaa", sum := "07d4c47ac03158dc4841ce353251c16ad594fe6461601557e3d7fba7a47e50f9", func := "tailwater/tailwaterlaw17.StoreTells", spec := "storeTells", inPlace := ["slices.overlaps[tailwater/api.Entry]"], unfollowed := true, recurses := true, plainKeys := false, apart := false, narrowed := true }
def StoreTellsUptoSaid : Prop := storeTellsUptoRow.holds Try.pinned (OpenSpec.upto storeTellsSpec)

/-- 'tailwaterlaw17.StoreNames', WHERE WHAT IT READS IS OF BULK AT MOST 1048576: true; the input reads as it did. -/
def storeNamesUptoRow : OpenClaim := { program := "ytbbdepeifdbbdaa", sum := "07d4c47ac03158dc4841ce353251c16ad594fe6461601557e3d7fba7a47e50f9", func := "tailwater/tailwaterlaw17.StoreNames", spec := "storeNames", inPlace := ["slices.overlaps[tailwater/api.Entry]"], unfollowed := true, recurses := true, plainKeys := false, apart := false, narrowed := true }
def StoreNamesUptoSaid : Prop := storeNamesUptoRow.holds Try.pinned (OpenSpec.upto storeNamesSpec)

/-- 'tailwaterlaw17.StoreOne', WHERE WHAT IT READS IS OF BULK AT MOST 1048576: true; the input reads as it did. -/
def storeOneUptoRow : OpenClaim := { program := "ytbbdepeifdbbdaa", sum := "07d4c47ac03158dc4841ce353251c16ad594fe6461601557e3d7fba7a47e50f9", func := "tailwater/tailwaterlaw17.StoreOne", spec := "storeOne", inPlace := ["slices.overlaps[tailwater/api.Entry]"], unfollowed := true, recurses := true, plainKeys := false, apart := false, narrowed := true }
def StoreOneUptoSaid : Prop := storeOneUptoRow.holds Try.pinned (OpenSpec.upto storeOneSpec)

/-- 'tailwaterlaw17.StoreHas', WHERE WHAT IT READS IS OF BULK AT MOST 1048576: true; the input reads as it did. -/
def storeHasUptoRow : OpenClaim := { program := "ytbbdepeifdbbdaa", sum := "07d4c47ac03158dc4841ce353251c16ad594fe6461601557e3d7fba7a47e50f9", func := "tailwater/tailwaterlaw17.StoreHas", spec := "storeHas", inPlace := ["slices.overlaps[tailwater/api.Entry]"], unfollowed := true, recurses := true, plainKeys := false, apart := false, narrowed := true }
def StoreHasUptoSaid : Prop := storeHasUptoRow.holds Try.pinned (OpenSpec.upto storeHasSpec)

/-- 'tailwaterlaw17.StoreFires', WHERE WHAT IT READS IS OF BULK AT MOST 1048576: true; the input reads as it did. -/
def storeFiresUptoRow : OpenClaim := { program := "ytbbdepeifdbbdaa", sum := "07d4c47ac03158dc4841ce353251c16ad594fe6461601557e3d7fba7a47e50f9", func := "tailwater/tailwaterlaw17.StoreFires", spec := "storeFires", inPlace := ["slices.overlaps[tailwater/api.Entry]"], unfollowed := true, recurses := true, plainKeys := false, apart := false, narrowed := true }
def StoreFiresUptoSaid : Prop := storeFiresUptoRow.holds Try.pinned (OpenSpec.upto storeFiresSpec)

/-- 'tailwaterlaw17.StoreKeys', WHERE WHAT IT READS IS OF BULK AT MOST 1048576: true; the input reads as it did. -/
def storeKeysUptoRow : OpenClaim := { program := "ytbbdepeifdbbdaa", sum := "07d4c47ac03158dc4841ce353251c16ad594fe6461601557e3d7fba7a47e50f9", func := "tailwater/tailwaterlaw17.StoreKeys", spec := "storeKeys", inPlace := ["slices.overlaps[tailwater/api.Entry]"], unfollowed := true, recurses := true, plainKeys := false, apart := false, narrowed := true }
def StoreKeysUptoSaid : Prop := storeKeysUptoRow.holds Try.pinned (OpenSpec.upto storeKeysSpec)

/-- 'tailwaterlaw19.PanesSame', WHERE WHAT IT READS IS OF BULK AT MOST 1048576: true; the input reads as it did. -/
def panesSameUptoRow : OpenClaim := { program := "ytbbdepeifdbbdaa", sum := "07d4c47ac03158dc4841ce353251c16ad594fe6461601557e3d7fba7a47e50f9", func := "tailwater/tailwaterlaw19.PanesSame", spec := "panesSame", inPlace := ["slices.overlaps[tailwater/api.Entry]"], unfollowed := true, recurses := true, plainKeys := false, apart := false, narrowed := true }
def PanesSameUptoSaid : Prop := panesSameUptoRow.holds Try.pinned (OpenSpec.upto panesSameSpec)

end Rows
end Go.Proofs.Ytbbdepeifdbbdaa
