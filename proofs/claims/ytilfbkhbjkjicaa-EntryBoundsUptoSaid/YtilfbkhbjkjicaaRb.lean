/- Rb: a part of the proofs about the tuple space and its bytes. -/
import Derived.Test.YtilfbkhbjkjicaaR9
import Derived.Test.YtilfbkhbjkjicaaR5
import Derived.Test.YtilfbkhbjkjicaaGv
import Derived.Test.YtilfbkhbjkjicaaAc
set_option linter.all false
set_option maxRecDepth 100000
set_option maxHeartbeats 0
namespace Go.Abs
open Go
open Go.Proofs.Try (prog)
theorem GV.rz {X : Nat → Prop} {h : List Entry} {T : TypeId} {v : AV} {l : List AV} {n : Nat} (hv : GV X h T v l) (hn : ∀ j, X j → n ≤ j) (hd : qcy l = true) : rz h n v = .list T l ∨ (l = [] ∧ rz h n v = .nils) := by
  cases hv with
  | flat => exact .inl (qa9 _ (by rw [zcm]; exact hd))
  | view hv => exact hv.rz hn hd
end Go.Abs
set_option linter.all false
set_option maxRecDepth 100000
set_option maxHeartbeats 0
namespace Go.Abs
open Go
open Go.Proofs.Try (prog)
end Go.Abs
