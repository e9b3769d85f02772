/- The contract of the reference's Given (chapter 17). Condition: as the theorem says. -/
import Derived.Test.YtbbdepeifdbbdaaStoreGivenR
import Derived.Test.YtbbdepeifdbbdaaKitB
namespace Go.Proofs.Ytbbdepeifdbbdaa
open Go.RowKit
theorem given_any (A : Option Addr) (c n : Nat) (l : List En) (wk ws we rk rt rv side : Int) (w : World) (hrv : (Lit.int .i64 rv).wf = true) (hln : l.length = n) (hz : A = none → c = 0) (hn : n ≤ 1099511627700) (hr : Rd enenc 11 w w.heap.size A l)
    (hss : SS l) (hl : ∀ y ∈ l, enw y) (ht : tot1 l ≤ 2305843009213690000 ∧ tot2 l ≤ 2305843009213690000) (hwok : wok wk ws we) (hs : side = 0 ∨ side = 1) (t1 : -1099511627776 ≤ rt) (t2 : rt ≤ 1099511627776) :
    Calls Try.prog 72 #[.slice A n c, .agg #[.int .u8 wk, .int .i64 ws, .int .i64 we], .agg #[.int .i64 rk, .int .i64 rt, .int .i64 rv], .int .i64 side] w (GivenP l wk ws we rk rt rv side w) := by
  by_cases hk : wk = 3
  · subst hk
    rcases hs with rfl | rfl
    · exact givenS0 A c n l ws we rk rt rv w hrv hln hz (by omega) hr hss hl ht hwok t1 t2
    · exact givenS1 A c n l ws we rk rt rv w hrv hln hz (by omega) hr hss hl ht hwok t1 t2
  · rcases hs with rfl | rfl
    · exact givenW0 A c n l wk ws we rk rt rv w hrv hln hz hn hr hss hl ht hwok hk t1 t2
    · exact givenW1 A c n l wk ws we rk rt rv w hrv hln hz hn hr hss hl ht hwok hk t1 t2
end Go.Proofs.Ytbbdepeifdbbdaa
