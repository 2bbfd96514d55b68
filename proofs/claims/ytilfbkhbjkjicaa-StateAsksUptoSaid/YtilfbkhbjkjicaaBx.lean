/- Bx: a part of the proofs about the tuple space and its bytes. -/
import Derived.Test.YtilfbkhbjkjicaaCi
import Derived.Test.YtilfbkhbjkjicaaGv
import Derived.Test.YtilfbkhbjkjicaaEb
set_option linter.all false
set_option maxRecDepth 100000
set_option maxHeartbeats 0
namespace Go.Abs
open Go
open Go.Proofs.Try (prog)
theorem ba_data (a b : ByteArray) : (a == b) = (a.data == b.data) := rfl
theorem strA_eB' : ∀ l : List UInt8, l.map (fun x => u8A (eB x)) = l
  | [] => rfl
  | x :: l => by
    rw [List.map_cons, strA_eB' l]
    simp [u8A, eB]
theorem strA_map (l : List UInt8) : strA (l.map eB) = ⟨l.toArray⟩ := by
  have := strA_eB' l
  rw [strA, List.map_map]
  exact congrArg (fun x => (⟨x.toArray⟩ : ByteArray)) this
theorem str_same (a b : List UInt8) : (strA (a.map eB) == strA (b.map eB)) = (a == b) := by
  rw [strA_map, strA_map, ba_data]
  by_cases h : a = b
  · subst h; simp
  · have e1 : (a == b) = false := by simpa using h
    rw [e1, beq_eq_false_iff_ne]
    intro e
    apply h
    simpa using e
theorem conv_str (a : List UInt8) : qbk prog 30 9 (eBs a) = .ret (.str (strA (a.map eB))) [] := by
  rw [eBs, stConv_list, if_pos ⟨zbl, sh_5, sh_9⟩]
theorem c_Same1 (a b : List UInt8) : Fn prog 17 [eBs a, eBs b] (.bool (a == b)) := by
  have cA := conv_str a
  have cB := conv_str b
  have hs := str_same a b
  refine run_17 rfl fun h => ?_
  repeat' (first
    | simp (implicitDefEqProofs := false) only [push_cast, reduceIte, reduceCtorEq, Nat.reduceAdd, Nat.reduceSub, Nat.reduceEqDiff, Nat.reduceLT, Nat.reduceLeDiff, Nat.reduceBEq, Nat.reduceMul, Int.reduceLT, Int.reduceLE, Int.reduceEq, Int.reduceToNat, Int.reduceMul, Int.reduceNeg, Go.Proofs.Try.f17, cA, cB, hs, ybq, yad, zae, qac, zad, yab, qad, sst, qab, yaa, qaa, List.replicate_succ, List.drop_zero]
    | refine Sp2.f ?_ ?_
    | refine Spl.f ?_ ?_ <;> intro hb
    | refine yac rfl (fun b hb => ?_))
end Go.Abs
