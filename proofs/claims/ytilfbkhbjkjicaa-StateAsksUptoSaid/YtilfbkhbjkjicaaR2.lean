/- R2: a part of the proofs about the tuple space and its bytes. -/
import Derived.Test.YtilfbkhbjkjicaaP2
set_option linter.all false
set_option maxRecDepth 100000
set_option maxHeartbeats 0
namespace Go.Abs
open Go
open Go.Proofs.Try (prog)
theorem zc9 (l : List Fld) (hl : l.length ≤ 4294967296) : Fn prog 50 [eFs l] (.bool (may6 l 5)) := by
  refine run_50 rfl fun h => ?_
  repeat' (first
    | simp (implicitDefEqProofs := false) only [push_cast, reduceIte, reduceCtorEq, Nat.reduceAdd, Nat.reduceSub, Nat.reduceEqDiff, Nat.reduceLT, Nat.reduceLeDiff, Nat.reduceBEq, Nat.reduceMul, Int.reduceLT, Int.reduceLE, Int.reduceEq, Int.reduceToNat, Int.reduceMul, Int.reduceNeg, Go.Proofs.Try.f50, yav, yax, zax]
    | refine Sp2.f ?_ ?_
    | refine Spl.f ?_ ?_ <;> intro hb
    | refine yac rfl (fun b hb => ?_)
    | refine zay (c_fields l 5 hl) ?_)
def sm6 (x y : Rpl) : Bool := x.Client == y.Client && (x.Seq == y.Seq && (x.Kind == y.Kind && (x.Late == y.Late && qb0 Fld.same x.T y.T)))
theorem c_SameReply6 (x y : Rpl) (hx : x.T.length ≤ 4294967296) (hy : y.T.length ≤ 4294967296) : Fn prog 76 [eR x, eR y] (.bool (sm6 x y)) := by
  refine run_76 rfl fun h => ?_
  repeat' (first
    | simp (implicitDefEqProofs := false) only [push_cast, reduceIte, reduceCtorEq, Nat.reduceAdd, Nat.reduceSub, Nat.reduceEqDiff, Nat.reduceLT, Nat.reduceLeDiff, Nat.reduceBEq, Nat.reduceMul, Int.reduceLT, Int.reduceLE, Int.reduceEq, Int.reduceToNat, Int.reduceMul, Int.reduceNeg, Go.Proofs.Try.f76, eR, eFs]
    | refine Sp2.f ?_ ?_
    | refine Spl.f ?_ ?_ <;> intro hb
    | refine yac rfl (fun b hb => ?_)
    | refine zay (qcz x.T y.T hx hy) ?_)
  all_goals (simp only [sm6, *, Bool.true_and, Bool.false_and])
end Go.Abs
