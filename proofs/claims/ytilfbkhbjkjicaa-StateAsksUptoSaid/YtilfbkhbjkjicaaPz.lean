/- Pz: a part of the proofs about the tuple space and its bytes. -/
import Derived.Test.YtilfbkhbjkjicaaR4
import Derived.Test.YtilfbkhbjkjicaaGv
import Derived.Test.YtilfbkhbjkjicaaSz
set_option linter.all false
set_option maxRecDepth 100000
set_option maxHeartbeats 0
namespace Go.Abs
open Go
open Go.Proofs.Try (prog)
theorem sameS_rfl (s : Spc) : yds s s = true := by
  have h0 : ∀ l : List Fld, sameT l l = true := fun l => yc0 fun x _ => same_refl x
  have h1 : qb0 smI s.Items s.Items = true := yc0 fun x _ => by simp [smI, h0]
  have h2 : qb0 smW s.Waiters s.Waiters = true := yc0 fun x _ => by simp [smW, h0]
  have h3 : qb0 smR s.Last s.Last = true := yc0 fun x _ => by simp [smR, h0]
  simp [yds, h1, h2, h3]
end Go.Abs
