/- Package ver, part 3: Check. -/
import Derived.Test.YtfkimddlgopgbaaGreatDoorVerLong
namespace Go.Proofs.Pw
open Go.RowKit
open Go.Lib hiding intOf

/-- ver.Check -/
theorem verCheck_calls (ks : List Nat) (A : Nat → Addr) (s : ByteArray) (w : World) (hE : EnvP ks A w) (hs : s.size ≤ 1000000000) :
    Calls Tryz.prog 120 #[.string s] w fun e w' => e = .returned (errV A (verErr s.data.toList)) ∧ Below w.heap.size w w' := by
  go_enter Tryz.func120, Tryz.ntmps120
  go_wp2_with fail
  refine (verSplit_calls ks A s w hE hs).mono ?_
  rintro e w1 ⟨hb1, v, rfl, a, n, cap, L, rfl, _, _, _, _⟩
  go_wp2_with fail
  go_ret
  exact ⟨rfl, hb1.alloc hb1.size _⟩
end Go.Proofs.Pw
