/- Pz: a part of the proofs about the tuple space and its bytes. -/
import Derived.Test.YtilfbkhbjkjicaaR4
import Derived.Test.YtilfbkhbjkjicaaGv
import Derived.Test.YtilfbkhbjkjicaaSz
set_option linter.all false
set_option maxRecDepth 100000
set_option maxHeartbeats 0
namespace Go.Abs
open Go
open Go.Proofs.Try (prog)
theorem MS.newrw (r w : Int) : MS (qb2 r w) := ⟨MS.new.now, mask16 r, mask16 w, MS.new.il, MS.new.wl, MS.new.it, MS.new.cn, MS.new.wt, MS.new.la, MS.new.nw⟩
theorem sameS_rfl (s : Spc) : ydr s s = true := by
  have h0 : ∀ l : List Fld, sameT l l = true := fun l => zc0 fun x _ => same_refl x
  have h1 : ycf smI s.Items s.Items = true := zc0 fun x _ => by simp [smI, h0]
  have h2 : ycf smW s.Waiters s.Waiters = true := zc0 fun x _ => by simp [smW, h0]
  have h3 : ycf smR s.Last s.Last = true := zc0 fun x _ => by simp [smR, h0]
  simp [ydr, h1, h2, h3]
end Go.Abs
