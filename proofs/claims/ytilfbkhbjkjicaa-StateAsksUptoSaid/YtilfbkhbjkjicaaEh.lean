/- Eh: a part of the proofs about the tuple space and its bytes. -/
import Derived.Test.YtilfbkhbjkjicaaSf
import Derived.Test.YtilfbkhbjkjicaaEb
set_option linter.all false
set_option maxRecDepth 100000
set_option maxHeartbeats 0
namespace Go.Abs
open Go
open Go.Proofs.Try (prog)
theorem eqT_Hash : eqT prog 36 = true := by kernel_rfl
theorem eqA_eH : ∀ x y : List UInt8, x.length = y.length → eqA prog 5 (.agg 36 (x.map eB)) (.agg 36 (y.map eB)) = some (x == y)
  | [], [], _ => by simp only [eqA, List.map_nil, eqT_Hash, and_self, if_true, List.zip_nil_left, List.foldr_nil]; rfl
  | [], _ :: _, h => by simp at h
  | _ :: _, [], h => by simp at h
  | a :: x, b :: y, h => by
    have hl : x.length = y.length := by simpa using h
    have ih := eqA_eH x y hl
    simp only [eqA, eqT_Hash, List.length_map, hl, and_self, if_true] at ih
    simp only [eqA, eqT_Hash, List.map_cons, List.length_cons, List.length_map, hl, and_self, if_true, List.zip_cons_cons, List.foldr_cons, ih]
    simp only [eB, eqA, eqB]
    simp
theorem eqH_self (x : List UInt8) : eqA prog 5 (.agg 36 (x.map eB)) (.agg 36 (x.map eB)) = some true := by
  rw [eqA_eH x x rfl]; simp
end Go.Abs
