/- Rf1: a part of the proofs about the tuple space and its bytes. -/
import Derived.Test.YtilfbkhbjkjicaaDz
set_option linter.all false
set_option maxRecDepth 100000
set_option maxHeartbeats 0
namespace Go.Abs
open Go
open Go.Proofs.Try (prog)
def ok6 (most : Int) (x : Fld) : Bool := decide (1 ≤ x.K) && decide (x.K ≤ most) && (x.K == 1 || x.N == 0) && (x.K == 2 || x.S == ⟨#[]⟩) && decide (x.S.size ≤ 40)
def may6 (l : List Fld) (most : Int) : Bool := decide (1 ≤ l.length) && decide (l.length ≤ 6) && l.all (ok6 most)
theorem c_fields (l : List Fld) (most : Int) (hl : l.length ≤ 4294967296) : Fn prog 114 [eFs l, .int .i64 most] (.bool (may6 l most)) := by
  refine run_114 rfl fun h => ?_
  by_cases h1 : 1 ≤ l.length ∧ l.length ≤ 6
  · have f1 : decide ((l.length : Int) < 1) = false := by simp; omega
    have f2 : decide ((6 : Int) < (l.length : Int)) = false := by simp; omega
    repeat' (first
    | simp (implicitDefEqProofs := false) only [push_cast, reduceIte, reduceCtorEq, Nat.reduceAdd, Nat.reduceSub, Nat.reduceEqDiff, Nat.reduceLT, Nat.reduceLeDiff, Nat.reduceBEq, Nat.reduceMul, Int.reduceLT, Int.reduceLE, Int.reduceEq, Int.reduceToNat, Int.reduceMul, Int.reduceNeg, Go.Proofs.Try.f114, eFs, List.length_map, f1, f2]
    | refine Sp2.f ?_ ?_
    | refine Spl.f ?_ ?_ <;> intro hb
    | refine yac rfl (fun b hb => ?_))
    refine qax (fun i a => [(0, eFs l), (1, .int .i64 most), (4, .bool false), (5, .int .i64 i), (6, a 6), (14, a 14), (18, a 18), (59, a 59)]) (fun _ g => h ++ g) (fun i => i ≤ l.length ∧ ∀ j x, j < i → l[j]? = some x → ok6 most x = true) l.length (za3 rfl ⟨[], (List.append_nil h).symm⟩ ⟨Nat.zero_le _, fun j x hj => by omega⟩) ?_
    rintro i a g' ⟨hi, hinv⟩
    refine ⟨hi, ?_⟩
    by_cases hlt : i < l.length
    · obtain ⟨x, hx⟩ : ∃ x, l[i]? = some x := ⟨_, List.getElem?_eq_getElem hlt⟩
      have hi9 : i < 9223372036854775807 := by omega
      repeat' (first
    | simp (implicitDefEqProofs := false) only [push_cast, reduceIte, reduceCtorEq, Nat.reduceAdd, Nat.reduceSub, Nat.reduceEqDiff, Nat.reduceLT, Nat.reduceLeDiff, Nat.reduceBEq, Nat.reduceMul, Int.reduceLT, Int.reduceLE, Int.reduceEq, Int.reduceToNat, Int.reduceMul, Int.reduceNeg, Go.Proofs.Try.f114, eFs, eF, List.length_map, zau hlt, yar hlt, zal eF hx, Int.toNat_natCast, qae hi9]
    | refine Sp2.f ?_ ?_
    | refine Spl.f ?_ ?_ <;> intro hb
    | refine yac rfl (fun b hb => ?_)
    | refine za3 ?_ ⟨_, rfl⟩ ?_)
      all_goals first
        | rfl
        | exact ⟨hlt, ybz hx (by simp only [ok6]; grind) hinv⟩
        | (have hbad : l.all (ok6 most) = false := by
             rw [List.all_eq_false]; exact ⟨x, List.mem_of_getElem? hx, by simp only [ok6]; grind⟩
           simp only [may6, hbad, Bool.and_false])
    · have hall : l.all (ok6 most) = true := ycm fun j x hj hx => hinv j x (by omega) hx
      repeat' (first
    | simp (implicitDefEqProofs := false) only [push_cast, reduceIte, reduceCtorEq, Nat.reduceAdd, Nat.reduceSub, Nat.reduceEqDiff, Nat.reduceLT, Nat.reduceLeDiff, Nat.reduceBEq, Nat.reduceMul, Int.reduceLT, Int.reduceLE, Int.reduceEq, Int.reduceToNat, Int.reduceMul, Int.reduceNeg, Go.Proofs.Try.f114, eFs, List.length_map, ya5 hlt]
    | refine Sp2.f ?_ ?_
    | refine Spl.f ?_ ?_ <;> intro hb
    | refine yac rfl (fun b hb => ?_))
      simp only [may6, hall, decide_eq_true h1.1, decide_eq_true h1.2, Bool.and_self]
  · have e : may6 l most = false := by
      unfold may6
      by_cases h2 : 1 ≤ l.length
      · rw [decide_eq_false (p := l.length ≤ 6) (by omega)]; simp
      · rw [decide_eq_false h2]; rfl
    rw [e]
    by_cases h2 : l.length < 1
    · have f1 : decide ((l.length : Int) < 1) = true := by simp; omega
      repeat' (first
    | simp (implicitDefEqProofs := false) only [push_cast, reduceIte, reduceCtorEq, Nat.reduceAdd, Nat.reduceSub, Nat.reduceEqDiff, Nat.reduceLT, Nat.reduceLeDiff, Nat.reduceBEq, Nat.reduceMul, Int.reduceLT, Int.reduceLE, Int.reduceEq, Int.reduceToNat, Int.reduceMul, Int.reduceNeg, Go.Proofs.Try.f114, eFs, List.length_map, f1]
    | refine Sp2.f ?_ ?_
    | refine Spl.f ?_ ?_ <;> intro hb
    | refine yac rfl (fun b hb => ?_))
    · have f1 : decide ((l.length : Int) < 1) = false := by simp; omega
      have f2 : decide ((6 : Int) < (l.length : Int)) = true := by simp; omega
      repeat' (first
    | simp (implicitDefEqProofs := false) only [push_cast, reduceIte, reduceCtorEq, Nat.reduceAdd, Nat.reduceSub, Nat.reduceEqDiff, Nat.reduceLT, Nat.reduceLeDiff, Nat.reduceBEq, Nat.reduceMul, Int.reduceLT, Int.reduceLE, Int.reduceEq, Int.reduceToNat, Int.reduceMul, Int.reduceNeg, Go.Proofs.Try.f114, eFs, List.length_map, f1, f2]
    | refine Sp2.f ?_ ?_
    | refine Spl.f ?_ ?_ <;> intro hb
    | refine yac rfl (fun b hb => ?_))
theorem c_MayTuple6 (l : List Fld) (hl : l.length ≤ 4294967296) : Fn prog 48 [eFs l] (.bool (may6 l 2)) := by
  refine run_48 rfl fun h => ?_
  repeat' (first
    | simp (implicitDefEqProofs := false) only [push_cast, reduceIte, reduceCtorEq, Nat.reduceAdd, Nat.reduceSub, Nat.reduceEqDiff, Nat.reduceLT, Nat.reduceLeDiff, Nat.reduceBEq, Nat.reduceMul, Int.reduceLT, Int.reduceLE, Int.reduceEq, Int.reduceToNat, Int.reduceMul, Int.reduceNeg, Go.Proofs.Try.f48, yav, yax, zax]
    | refine Sp2.f ?_ ?_
    | refine Spl.f ?_ ?_ <;> intro hb
    | refine yac rfl (fun b hb => ?_)
    | refine zay (c_fields l 2 hl) ?_)
theorem qcz (l m : List Fld) (hl : l.length ≤ 4294967296) (hm : m.length ≤ 4294967296) : Fn prog 75 [eFs l, eFs m] (.bool (qb0 Fld.same l m)) := by
  refine run_75 rfl fun h => ?_
  by_cases hlen : l.length = m.length
  · repeat' (first
    | simp (implicitDefEqProofs := false) only [push_cast, reduceIte, reduceCtorEq, Nat.reduceAdd, Nat.reduceSub, Nat.reduceEqDiff, Nat.reduceLT, Nat.reduceLeDiff, Nat.reduceBEq, Nat.reduceMul, Int.reduceLT, Int.reduceLE, Int.reduceEq, Int.reduceToNat, Int.reduceMul, Int.reduceNeg, Go.Proofs.Try.f75, eFs, List.length_map, eq_len hlen]
    | refine Sp2.f ?_ ?_
    | refine Spl.f ?_ ?_ <;> intro hb
    | refine yac rfl (fun b hb => ?_)
    | refine zaa (U := [[], [], [], [], [], [], [], [], []]) (H := []) zaf (by kernel_rfl) (by decide +kernel) (by kernel_rfl) ?_)
    refine qax (fun i a => [(0, eFs l), (1, eFs m), (4, .bool false), (5, .int .i64 i), (10, a 10), (14, a 14), (25, a 25)]) (fun _ g => h ++ g) (fun i => i ≤ l.length ∧ ∀ j x y, j < i → l[j]? = some x → m[j]? = some y → Fld.same x y = true) l.length (za3 rfl ⟨[], (List.append_nil h).symm⟩ ⟨Nat.zero_le _, fun j x y hj => by omega⟩) ?_
    rintro i a g' ⟨hi, hinv⟩
    refine ⟨hi, ?_⟩
    by_cases hlt : i < l.length
    · have hlt' : i < m.length := by omega
      have hx : l[i]? = some l[i] := List.getElem?_eq_getElem hlt
      have hy : m[i]? = some m[i] := List.getElem?_eq_getElem hlt'
      have hi9 : i < 9223372036854775807 := by omega
      by_cases hs : Fld.same l[i] m[i] = true
      · have hs2 := hs
        simp only [Fld.same] at hs2
        repeat' (first
    | simp (implicitDefEqProofs := false) only [push_cast, reduceIte, reduceCtorEq, Nat.reduceAdd, Nat.reduceSub, Nat.reduceEqDiff, Nat.reduceLT, Nat.reduceLeDiff, Nat.reduceBEq, Nat.reduceMul, Int.reduceLT, Int.reduceLE, Int.reduceEq, Int.reduceToNat, Int.reduceMul, Int.reduceNeg, Go.Proofs.Try.f75, eFs, List.length_map, zau hlt, yar hlt, yar hlt', zal eF hx, zal eF hy, eF, eqA, eq_Field, hs2, List.zip_cons_cons, List.zip_nil_left, List.foldr_cons, List.foldr_nil, Int.toNat_natCast, qae hi9]
    | refine Sp2.f ?_ ?_
    | refine Spl.f ?_ ?_ <;> intro hb
    | refine yac rfl (fun b hb => ?_)
    | refine zaa (U := [[], [], [], [], [], [], [], [], []]) (H := []) zaf (by kernel_rfl) (by decide +kernel) (by kernel_rfl) ?_
    | refine za3 ?_ ⟨_, rfl⟩ ?_)
        exact ⟨hlt, qbf hx hy hs hinv⟩
      · have hs : Fld.same l[i] m[i] = false := by simpa using hs
        have hs2 := hs
        simp only [Fld.same] at hs2
        repeat' (first
    | simp (implicitDefEqProofs := false) only [push_cast, reduceIte, reduceCtorEq, Nat.reduceAdd, Nat.reduceSub, Nat.reduceEqDiff, Nat.reduceLT, Nat.reduceLeDiff, Nat.reduceBEq, Nat.reduceMul, Int.reduceLT, Int.reduceLE, Int.reduceEq, Int.reduceToNat, Int.reduceMul, Int.reduceNeg, Go.Proofs.Try.f75, eFs, List.length_map, zau hlt, yar hlt, yar hlt', zal eF hx, zal eF hy, eF, eqA, eq_Field, hs2, List.zip_cons_cons, List.zip_nil_left, List.foldr_cons, List.foldr_nil, Int.toNat_natCast, qae hi9]
    | refine Sp2.f ?_ ?_
    | refine Spl.f ?_ ?_ <;> intro hb
    | refine yac rfl (fun b hb => ?_)
    | refine zaa (U := [[], [], [], [], [], [], [], [], []]) (H := []) zaf (by kernel_rfl) (by decide +kernel) (by kernel_rfl) ?_
    | refine za3 ?_ ⟨_, rfl⟩ ?_)
        rw [zbo hx hy hs]
    · repeat' (first
    | simp (implicitDefEqProofs := false) only [push_cast, reduceIte, reduceCtorEq, Nat.reduceAdd, Nat.reduceSub, Nat.reduceEqDiff, Nat.reduceLT, Nat.reduceLeDiff, Nat.reduceBEq, Nat.reduceMul, Int.reduceLT, Int.reduceLE, Int.reduceEq, Int.reduceToNat, Int.reduceMul, Int.reduceNeg, Go.Proofs.Try.f75, eFs, List.length_map, ya5 hlt]
    | refine Sp2.f ?_ ?_
    | refine Spl.f ?_ ?_ <;> intro hb
    | refine yac rfl (fun b hb => ?_)
    | refine zaa (U := [[], [], [], [], [], [], [], [], []]) (H := []) zaf (by kernel_rfl) (by decide +kernel) (by kernel_rfl) ?_)
      rw [zbx hlen fun j x y hj => hinv j x y (by omega)]
  · repeat' (first
    | simp (implicitDefEqProofs := false) only [push_cast, reduceIte, reduceCtorEq, Nat.reduceAdd, Nat.reduceSub, Nat.reduceEqDiff, Nat.reduceLT, Nat.reduceLeDiff, Nat.reduceBEq, Nat.reduceMul, Int.reduceLT, Int.reduceLE, Int.reduceEq, Int.reduceToNat, Int.reduceMul, Int.reduceNeg, Go.Proofs.Try.f75, eFs, List.length_map, neq_len hlen]
    | refine Sp2.f ?_ ?_
    | refine Spl.f ?_ ?_ <;> intro hb
    | refine yac rfl (fun b hb => ?_)
    | refine zaa (U := [[], [], [], [], [], [], [], [], []]) (H := []) zaf (by kernel_rfl) (by decide +kernel) (by kernel_rfl) ?_)
    rw [qcm hlen]
end Go.Abs
