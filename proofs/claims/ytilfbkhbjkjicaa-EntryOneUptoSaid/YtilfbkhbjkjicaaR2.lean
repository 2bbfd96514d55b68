/- R2: a part of the proofs about the tuple space and its bytes. -/
import Derived.Test.YtilfbkhbjkjicaaP2
set_option linter.all false
set_option maxRecDepth 100000
set_option maxHeartbeats 0
namespace Go.Abs
open Go
open Go.Proofs.Try (prog)
theorem yb1 (l : List Fld) (hl : l.length ≤ 4294967296) : Fn prog 50 [eFs l] (.bool (may6 l 5)) := by
  refine run_50 rfl fun h => ?_
  repeat' (first
    | simp (implicitDefEqProofs := false) only [push_cast, reduceIte, reduceCtorEq, Nat.reduceAdd, Nat.reduceSub, Nat.reduceEqDiff, Nat.reduceLT, Nat.reduceLeDiff, Nat.reduceBEq, Nat.reduceMul, Int.reduceLT, Int.reduceLE, Int.reduceEq, Int.reduceToNat, Int.reduceMul, Int.reduceNeg, Go.Proofs.Try.f50, yak, qal, zak]
    | refine Sp2.f ?_ ?_
    | refine Spl.f ?_ ?_ <;> intro hb
    | refine qac rfl (fun b hb => ?_)
    | refine zat (c_fields l 5 hl) ?_)
def reads6 (k : Int) : Bool := decide (2 ≤ k) && decide (k ≤ 7)
theorem c_Reads6 (k : Int) : Fn prog 89 [.int .i64 k] (.bool (reads6 k)) := by
  refine run_89 rfl fun h => ?_
  repeat' (first
    | simp (implicitDefEqProofs := false) only [push_cast, reduceIte, reduceCtorEq, Nat.reduceAdd, Nat.reduceSub, Nat.reduceEqDiff, Nat.reduceLT, Nat.reduceLeDiff, Nat.reduceBEq, Nat.reduceMul, Int.reduceLT, Int.reduceLE, Int.reduceEq, Int.reduceToNat, Int.reduceMul, Int.reduceNeg, Go.Proofs.Try.f89]
    | refine Sp2.f ?_ ?_
    | refine Spl.f ?_ ?_ <;> intro hb
    | refine qac rfl (fun b hb => ?_))
  all_goals (apply congrArg AV.bool; simp only [reads6]; grind)
def puts6 (k : Int) : Bool := k == 1 || (k == 6 || k == 7)
def head6 (x : Req) : Bool := decide (0 ≤ x.Client) && decide (x.Client < 4) && decide (1 ≤ x.Seq) && decide (x.Seq ≤ 1073741824) && decide (1 ≤ x.Kind) && decide (x.Kind ≤ 8)
def mayQ6 (x : Req) : Bool := head6 x && (if puts6 x.Kind = true then may6 x.T 2 && (decide (0 ≤ x.Lease) && decide (x.Lease ≤ 1099511627776)) else decide (x.T = []) && decide (x.Lease = 0)) && (if reads6 x.Kind = true then may6 x.P 5 else decide (x.P = []))
theorem len_pos {α : Type} (l : List α) : decide ((0 : Int) < (l.length : Int)) = !decide (l = []) := by cases l <;> simp
theorem zdr (x : Req) (hx : x.Small) : Fn prog 86 [eQ x] (.bool (mayQ6 x)) := by
  refine run_86 rfl fun h => ?_
  by_cases hh : head6 x = true
  · have hh2 := hh
    simp only [head6, Bool.and_eq_true, decide_eq_true_eq] at hh2
    have g1 : decide (x.Client < 0) = false := by simp; omega
    have g2 : decide ((4 : Int) ≤ x.Client) = false := by simp; omega
    have g3 : decide (x.Seq < 1) = false := by simp; omega
    have g4 : decide ((1073741824 : Int) < x.Seq) = false := by simp; omega
    have g5 : decide (x.Kind < 1) = false := by simp; omega
    have g6 : decide ((8 : Int) < x.Kind) = false := by simp; omega
    repeat' (first
    | simp (implicitDefEqProofs := false) only [push_cast, reduceIte, reduceCtorEq, Nat.reduceAdd, Nat.reduceSub, Nat.reduceEqDiff, Nat.reduceLT, Nat.reduceLeDiff, Nat.reduceBEq, Nat.reduceMul, Int.reduceLT, Int.reduceLE, Int.reduceEq, Int.reduceToNat, Int.reduceMul, Int.reduceNeg, Go.Proofs.Try.f86, eQ, eFs, List.length_map, len_nil, len_pos, g1, g2, g3, g4, g5, g6]
    | refine Sp2.f ?_ ?_
    | refine Spl.f ?_ ?_ <;> intro hb
    | refine qac rfl (fun b hb => ?_)
    | refine zat (yce x.T hx.T) ?_
    | refine zat (c_Reads6 _) ?_
    | refine zat (yb1 x.P hx.P) ?_)
    all_goals (apply congrArg AV.bool; simp only [mayQ6, hh, puts6, Bool.true_and]; grind)
  · have hh : head6 x = false := by simpa using hh
    have e : mayQ6 x = false := by simp only [mayQ6, hh, Bool.false_and]
    rw [e]
    have hcs : x.Client < 0 ∨ 4 ≤ x.Client ∨ x.Seq < 1 ∨ 1073741824 < x.Seq ∨ x.Kind < 1 ∨ 8 < x.Kind := by
      by_cases hn : 0 ≤ x.Client ∧ x.Client < 4 ∧ 1 ≤ x.Seq ∧ x.Seq ≤ 1073741824 ∧ 1 ≤ x.Kind ∧ x.Kind ≤ 8
      · simp only [head6, decide_eq_true hn.1, decide_eq_true hn.2.1, decide_eq_true hn.2.2.1, decide_eq_true hn.2.2.2.1, decide_eq_true hn.2.2.2.2.1, decide_eq_true hn.2.2.2.2.2, Bool.and_self] at hh
        cases hh
      · omega
    repeat' (first
    | simp (implicitDefEqProofs := false) only [push_cast, reduceIte, reduceCtorEq, Nat.reduceAdd, Nat.reduceSub, Nat.reduceEqDiff, Nat.reduceLT, Nat.reduceLeDiff, Nat.reduceBEq, Nat.reduceMul, Int.reduceLT, Int.reduceLE, Int.reduceEq, Int.reduceToNat, Int.reduceMul, Int.reduceNeg, Go.Proofs.Try.f86, eQ, eFs, List.length_map, len_nil, len_pos]
    | refine Sp2.f ?_ ?_
    | refine Spl.f ?_ ?_ <;> intro hb
    | refine qac rfl (fun b hb => ?_)
    | refine zat (yce x.T hx.T) ?_
    | refine zat (c_Reads6 _) ?_
    | refine zat (yb1 x.P hx.P) ?_)
    all_goals first
      | rfl
      | (exfalso; simp only [decide_eq_true_eq, decide_eq_false_iff_not] at *; omega)
theorem kinds (k : Int) (h : 1 ≤ k ∧ k ≤ 8) : puts6 k = putsK k ∧ reads6 k = qb2 k := by
  rcases (by omega : k = 1 ∨ k = 2 ∨ k = 3 ∨ k = 4 ∨ k = 5 ∨ k = 6 ∨ k = 7 ∨ k = 8) with rfl | rfl | rfl | rfl | rfl | rfl | rfl | rfl <;> exact ⟨by kernel_rfl, by kernel_rfl⟩
def sm6 (x y : Rpl) : Bool := x.Client == y.Client && (x.Seq == y.Seq && (x.Kind == y.Kind && (x.Late == y.Late && qb8 Fld.same x.T y.T)))
theorem c_SameReply6 (x y : Rpl) (hx : x.T.length ≤ 4294967296) (hy : y.T.length ≤ 4294967296) : Fn prog 76 [eR x, eR y] (.bool (sm6 x y)) := by
  refine run_76 rfl fun h => ?_
  repeat' (first
    | simp (implicitDefEqProofs := false) only [push_cast, reduceIte, reduceCtorEq, Nat.reduceAdd, Nat.reduceSub, Nat.reduceEqDiff, Nat.reduceLT, Nat.reduceLeDiff, Nat.reduceBEq, Nat.reduceMul, Int.reduceLT, Int.reduceLE, Int.reduceEq, Int.reduceToNat, Int.reduceMul, Int.reduceNeg, Go.Proofs.Try.f76, eR, eFs]
    | refine Sp2.f ?_ ?_
    | refine Spl.f ?_ ?_ <;> intro hb
    | refine qac rfl (fun b hb => ?_)
    | refine zat (yc4 x.T y.T hx hy) ?_)
  all_goals (simp only [sm6, *, Bool.true_and, Bool.false_and])
theorem sm6_refl (x : Rpl) : sm6 x x = true := by simp [sm6, zcf fun y _ => same_refl y]
end Go.Abs
