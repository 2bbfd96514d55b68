/- Rf1: a part of the proofs about the tuple space and its bytes. -/
import Derived.Test.YtilfbkhbjkjicaaDz
set_option linter.all false
set_option maxRecDepth 100000
set_option maxHeartbeats 0
namespace Go.Abs
open Go
open Go.Proofs.Try (prog)
theorem zcz (l m : List Fld) (hl : l.length ≤ 4294967296) (hm : m.length ≤ 4294967296) : Fn prog 75 [eFs l, eFs m] (.bool (ycf Fld.same l m)) := by
  refine run_75 rfl fun h => ?_
  by_cases hlen : l.length = m.length
  · repeat' (first
    | simp (implicitDefEqProofs := false) only [push_cast, reduceIte, reduceCtorEq, Nat.reduceAdd, Nat.reduceSub, Nat.reduceEqDiff, Nat.reduceLT, Nat.reduceLeDiff, Nat.reduceBEq, Nat.reduceMul, Int.reduceLT, Int.reduceLE, Int.reduceEq, Int.reduceToNat, Int.reduceMul, Int.reduceNeg, Go.Proofs.Try.f75, eFs, List.length_map, eq_len hlen]
    | refine Sp2.f ?_ ?_
    | refine Spl.f ?_ ?_ <;> intro hb
    | refine yac rfl (fun b hb => ?_)
    | refine zaa (U := [[], [], [], [], [], [], [], [], []]) (H := []) yae (by kernel_rfl) (by decide +kernel) (by kernel_rfl) ?_)
    refine zaz (fun i a => [(0, eFs l), (1, eFs m), (4, .bool false), (5, .int .i64 i), (10, a 10), (14, a 14), (25, a 25)]) (fun _ g => h ++ g) (fun i => i ≤ l.length ∧ ∀ j x y, j < i → l[j]? = some x → m[j]? = some y → Fld.same x y = true) l.length (za4 rfl ⟨[], (List.append_nil h).symm⟩ ⟨Nat.zero_le _, fun j x y hj => by omega⟩) ?_
    rintro i a g' ⟨hi, hinv⟩
    refine ⟨hi, ?_⟩
    by_cases hlt : i < l.length
    · have hlt' : i < m.length := by omega
      have hx : l[i]? = some l[i] := List.getElem?_eq_getElem hlt
      have hy : m[i]? = some m[i] := List.getElem?_eq_getElem hlt'
      have hi9 : i < 9223372036854775807 := by omega
      by_cases hs : Fld.same l[i] m[i] = true
      · have hs2 := hs
        simp only [Fld.same] at hs2
        repeat' (first
    | simp (implicitDefEqProofs := false) only [push_cast, reduceIte, reduceCtorEq, Nat.reduceAdd, Nat.reduceSub, Nat.reduceEqDiff, Nat.reduceLT, Nat.reduceLeDiff, Nat.reduceBEq, Nat.reduceMul, Int.reduceLT, Int.reduceLE, Int.reduceEq, Int.reduceToNat, Int.reduceMul, Int.reduceNeg, Go.Proofs.Try.f75, eFs, List.length_map, yaz hlt, yas hlt, yas hlt', zar eF hx, zar eF hy, eF, eqA, eq_Field, hs2, List.zip_cons_cons, List.zip_nil_left, List.foldr_cons, List.foldr_nil, Int.toNat_natCast, yag hi9]
    | refine Sp2.f ?_ ?_
    | refine Spl.f ?_ ?_ <;> intro hb
    | refine yac rfl (fun b hb => ?_)
    | refine zaa (U := [[], [], [], [], [], [], [], [], []]) (H := []) yae (by kernel_rfl) (by decide +kernel) (by kernel_rfl) ?_
    | refine za4 ?_ ⟨_, rfl⟩ ?_)
        exact ⟨hlt, qbg hx hy hs hinv⟩
      · have hs : Fld.same l[i] m[i] = false := by simpa using hs
        have hs2 := hs
        simp only [Fld.same] at hs2
        repeat' (first
    | simp (implicitDefEqProofs := false) only [push_cast, reduceIte, reduceCtorEq, Nat.reduceAdd, Nat.reduceSub, Nat.reduceEqDiff, Nat.reduceLT, Nat.reduceLeDiff, Nat.reduceBEq, Nat.reduceMul, Int.reduceLT, Int.reduceLE, Int.reduceEq, Int.reduceToNat, Int.reduceMul, Int.reduceNeg, Go.Proofs.Try.f75, eFs, List.length_map, yaz hlt, yas hlt, yas hlt', zar eF hx, zar eF hy, eF, eqA, eq_Field, hs2, List.zip_cons_cons, List.zip_nil_left, List.foldr_cons, List.foldr_nil, Int.toNat_natCast, yag hi9]
    | refine Sp2.f ?_ ?_
    | refine Spl.f ?_ ?_ <;> intro hb
    | refine yac rfl (fun b hb => ?_)
    | refine zaa (U := [[], [], [], [], [], [], [], [], []]) (H := []) yae (by kernel_rfl) (by decide +kernel) (by kernel_rfl) ?_
    | refine za4 ?_ ⟨_, rfl⟩ ?_)
        rw [zbq hx hy hs]
    · repeat' (first
    | simp (implicitDefEqProofs := false) only [push_cast, reduceIte, reduceCtorEq, Nat.reduceAdd, Nat.reduceSub, Nat.reduceEqDiff, Nat.reduceLT, Nat.reduceLeDiff, Nat.reduceBEq, Nat.reduceMul, Int.reduceLT, Int.reduceLE, Int.reduceEq, Int.reduceToNat, Int.reduceMul, Int.reduceNeg, Go.Proofs.Try.f75, eFs, List.length_map, ya3 hlt]
    | refine Sp2.f ?_ ?_
    | refine Spl.f ?_ ?_ <;> intro hb
    | refine yac rfl (fun b hb => ?_)
    | refine zaa (U := [[], [], [], [], [], [], [], [], []]) (H := []) yae (by kernel_rfl) (by decide +kernel) (by kernel_rfl) ?_)
      rw [qbz hlen fun j x y hj => hinv j x y (by omega)]
  · repeat' (first
    | simp (implicitDefEqProofs := false) only [push_cast, reduceIte, reduceCtorEq, Nat.reduceAdd, Nat.reduceSub, Nat.reduceEqDiff, Nat.reduceLT, Nat.reduceLeDiff, Nat.reduceBEq, Nat.reduceMul, Int.reduceLT, Int.reduceLE, Int.reduceEq, Int.reduceToNat, Int.reduceMul, Int.reduceNeg, Go.Proofs.Try.f75, eFs, List.length_map, neq_len hlen]
    | refine Sp2.f ?_ ?_
    | refine Spl.f ?_ ?_ <;> intro hb
    | refine yac rfl (fun b hb => ?_)
    | refine zaa (U := [[], [], [], [], [], [], [], [], []]) (H := []) yae (by kernel_rfl) (by decide +kernel) (by kernel_rfl) ?_)
    rw [yca hlen]
end Go.Abs
