/- N6: a part of the proofs about the tuple space and its bytes. -/
import Derived.Test.YtilfbkhbjkjicaaSp3
set_option linter.all false
set_option maxRecDepth 100000
set_option maxHeartbeats 0
namespace Go.Abs
open Go
open Go.Proofs.Try (prog)
theorem c_New6 (r w : Int) : Fn prog 32 [.int .i64 r, .int .i64 w] (eS (qb2 r w)) := by
  refine fn_wk (r0 := spcN r w 4) 29 ?_ (by simp [spcN, ty_agg]) ?_
  · refine run_32 rfl fun h => ?_
    repeat' (first
    | simp (implicitDefEqProofs := false) only [push_cast, reduceIte, reduceCtorEq, Nat.reduceAdd, Nat.reduceSub, Nat.reduceEqDiff, Nat.reduceLT, Nat.reduceLeDiff, Nat.reduceBEq, Nat.reduceMul, Int.reduceLT, Int.reduceLE, Int.reduceEq, Int.reduceToNat, Int.reduceMul, Int.reduceNeg, Go.Proofs.Try.f32]
    | refine Sp2.f ?_ ?_
    | refine Spl.f ?_ ?_ <;> intro hb
    | refine yac rfl (fun b hb => ?_))
    refine zaz (fun i a => [(0, .int .i64 r), (1, .int .i64 w), (4, .ref h.length [0] 29), (5, .ref (h.length + 1) [0] 29), (6, .int .i64 i), (13, a 13)]) (fun i _ => h ++ [⟨29, [zai prog 29], .own⟩, ⟨29, [spcN r w i], .own⟩]) (fun i => i ≤ 4) 4 (za4 rfl ⟨[], ?_⟩ (by omega)) ?_
    · simp only [za_29]; rfl
    rintro i a g' hi
    refine ⟨hi, ?_⟩
    have h5 : i = 0 ∨ i = 1 ∨ i = 2 ∨ i = 3 ∨ i = 4 := by omega
    rcases h5 with rfl | rfl | rfl | rfl | rfl
    all_goals (repeat' (first
    | simp (implicitDefEqProofs := false) only [push_cast, reduceIte, reduceCtorEq, Nat.reduceAdd, Nat.reduceSub, Nat.reduceEqDiff, Nat.reduceLT, Nat.reduceLeDiff, Nat.reduceBEq, Nat.reduceMul, Int.reduceLT, Int.reduceLE, Int.reduceEq, Int.reduceToNat, Int.reduceMul, Int.reduceNeg, Go.Proofs.Try.f32, spcN, lst, rp0, (show ((0 : Nat) : Int) = 0 from rfl), (show ((1 : Nat) : Int) = 1 from rfl), (show ((2 : Nat) : Int) = 2 from rfl), (show ((3 : Nat) : Int) = 3 from rfl), (show ((4 : Nat) : Int) = 4 from rfl)]
    | refine Sp2.f ?_ ?_
    | refine Spl.f ?_ ?_ <;> intro hb
    | refine yac rfl (fun b hb => ?_)
    | refine za4 ?_ ⟨[], rfl⟩ ?_))
    all_goals first
      | rfl
      | omega
      | exact res_mk (by simp [ybs, qbs, zb5, qdu, dat_bool, dat]) rfl
  · simp only [spcN, lst, rp0, eS, qb2, eIs, eWs, eL, eR, eFs, List.map_nil, List.map_cons, ybu, qaw, wkAgg_arr, ybq, wk_bool, qbe, qan, sh_29, fl_29, sh_27, sh_26, fl_26, sh_22, sh_23, sh_24, List.zipWith_cons_cons, List.zipWith_nil_left, if_true, Nat.reduceLT, reduceIte, if_false]
end Go.Abs
