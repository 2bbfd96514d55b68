/- Sb: a part of the proofs about the tuple space and its bytes. -/
import Derived.Test.YtilfbkhbjkjicaaSp2
import Derived.Test.YtilfbkhbjkjicaaGv
set_option linter.all false
set_option maxRecDepth 100000
set_option maxHeartbeats 0
namespace Go.Abs
open Go
open Go.Proofs.Try (prog)
def eB (b : UInt8) : AV := .int .u8 b.toNat
def eBs (l : List UInt8) : AV := .list 5 (l.map eB)
theorem ybp (l : List UInt8) : wk prog 6 30 (eBs l) = eBs l := zbc ..
theorem zbm (l : List UInt8) : tyB prog (eBs l) 30 = true := by simp [eBs, tyB, sh_30]
theorem qbi (l : List UInt8) : yah (eBs l) = true := rfl
theorem eB_dat (x : UInt8) : dat (eB x) = true := rfl
theorem zbw (l : List UInt8) : dat (eBs l) = true := by rw [eBs, qcj]; exact zal eB eB_dat l
end Go.Abs
set_option linter.all false
set_option maxRecDepth 100000
set_option maxHeartbeats 0
namespace Go.Abs
open Go
open Go.Proofs.Try (prog)
theorem i64_nat {n : Int} (m : Nat) (h : n = m) (hm : m < 9223372036854775808) : IntKind.i64.wrap n = (m : Int) := by
  rw [h, IntWalk.i64_in _ (by omega)]
theorem eB_eq (b : UInt8) : eB b = .int .u8 b.toNat := rfl
end Go.Abs
