/- Pz: a part of the proofs about the tuple space and its bytes. -/
import Derived.Test.YtilfbkhbjkjicaaR4
import Derived.Test.YtilfbkhbjkjicaaGv
import Derived.Test.YtilfbkhbjkjicaaSz
set_option linter.all false
set_option maxRecDepth 100000
set_option maxHeartbeats 0
namespace Go.Abs
open Go
open Go.Proofs.Try (prog)
theorem sameS_rfl (s : Spc) : qdv s s = true := by
  have h0 : ∀ l : List Fld, sameT l l = true := fun l => zcf fun x _ => same_refl x
  have h1 : qb8 smI s.Items s.Items = true := zcf fun x _ => by simp [smI, h0]
  have h2 : qb8 smW s.Waiters s.Waiters = true := zcf fun x _ => by simp [smW, h0]
  have h3 : qb8 smR s.Last s.Last = true := zcf fun x _ => by simp [smR, h0]
  simp [qdv, h1, h2, h3]
theorem sm6s_rfl (l : List Rpl) : qb8 sm6 l l = true := zcf fun x _ => sm6_refl x
end Go.Abs
