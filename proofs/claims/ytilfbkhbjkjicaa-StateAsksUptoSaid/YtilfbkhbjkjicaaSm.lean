/- Sm: a part of the proofs about the tuple space and its bytes. -/
import Derived.Test.YtilfbkhbjkjicaaTo
set_option linter.all false
set_option maxRecDepth 100000
set_option maxHeartbeats 0
namespace Go.Abs
open Go
open Go.Proofs.Try (prog)
def smI (x y : Itm) : Bool := x.Owner == y.Owner && (x.Until == y.Until && sameT x.T y.T)
def smW (x y : Wtr) : Bool := x.Client == y.Client && (x.Seq == y.Seq && (x.Take == y.Take && sameT x.P y.P))
def smR (x y : Rpl) : Bool := x.Client == y.Client && (x.Seq == y.Seq && (x.Kind == y.Kind && (x.Late == y.Late && sameT x.T y.T)))
theorem eR_wk6 (x : Rpl) : wk prog 6 26 (eR x) = eR x := eR_wk 4 x
def yds (a b : Spc) : Bool := a.Now == b.Now && (a.Read == b.Read && (a.Write == b.Write && (qb0 smI a.Items b.Items && (qb0 smW a.Waiters b.Waiters && qb0 smR a.Last b.Last))))
end Go.Abs
