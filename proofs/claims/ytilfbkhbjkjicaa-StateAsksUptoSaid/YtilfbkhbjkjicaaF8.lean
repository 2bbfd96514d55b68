/- F8: a part of the proofs about the tuple space and its bytes. -/
import Derived.Test.YtilfbkhbjkjicaaP2
import Derived.Test.YtilfbkhbjkjicaaSp3
set_option linter.all false
set_option maxRecDepth 100000
set_option maxHeartbeats 0
namespace Go.Abs
open Go
open Go.Proofs.Try (prog)
def few8i (x : Itm) : Bool := fewF ([] : List Fld) && fewF x.T
def few8w (x : Wtr) : Bool := fewF x.P && fewF ([] : List Fld)
def few8r (x : Rpl) : Bool := fewF ([] : List Fld) && fewF x.T
def fewS (s : Spc) : Bool := decide (s.Items.length ≤ 100) && (decide (s.Waiters.length ≤ 100) && (s.Items.all few8i && (s.Waiters.all few8w && s.Last.all few8r)))
theorem all_bad {α : Type} {p : α → Bool} {l : List α} {i : Nat} {x : α} (hx : l[i]? = some x) (h : p x = false) : l.all p = false := by
  rw [List.all_eq_false]; exact ⟨x, List.mem_of_getElem? hx, by simp [h]⟩
theorem c_Few8 (s : Spc) (hs : s.Small) : Fn prog 12 [eS s] (.bool (fewS s)) := by
  refine run_12 rfl fun h => ?_
  have gI : qbg (eS s) [1] = some (.list 87 (s.Items.map eI)) := rfl
  have gW : qbg (eS s) [2] = some (.list 89 (s.Waiters.map eW)) := rfl
  by_cases hH : s.Items.length ≤ 100 ∧ s.Waiters.length ≤ 100
  · have g3 : decide ((100 : Int) < (s.Items.length : Int)) = false := by simp; omega
    have g4 : decide ((100 : Int) < (s.Waiters.length : Int)) = false := by simp; omega
    repeat' (first
    | simp (implicitDefEqProofs := false) only [push_cast, reduceIte, reduceCtorEq, Nat.reduceAdd, Nat.reduceSub, Nat.reduceEqDiff, Nat.reduceLT, Nat.reduceLeDiff, Nat.reduceBEq, Nat.reduceMul, Int.reduceLT, Int.reduceLE, Int.reduceEq, Int.reduceToNat, Int.reduceMul, Int.reduceNeg, Go.Proofs.Try.f12, gI, gW, qcp, zcq, ycp, List.length_map, g3, g4, yad, zae, qac, zad, yab, qad, sst, qab, yaa, qaa, yaq, qdr, List.replicate_succ, List.drop_zero]
    | refine Sp2.f ?_ ?_
    | refine Spl.f ?_ ?_ <;> intro hb
    | refine yac rfl (fun b hb => ?_))
    refine qau (GI1 h ⟨29, [eS s], .own⟩ (fun i => i ≤ s.Items.length ∧ ∀ j x, j < i → s.Items[j]? = some x → few8i x = true) (fun i a => [(0, eS s), (1, .ref h.length [0] 29), (2, .bool false), (3, .int .i64 i), (4, a 4), (5, a 5), (15, a 15), (20, a 20), (31, a 31), (36, a 36), (47, a 47), (49, a 49), (59, a 59)])) s.Items.length ?_ ?_
    · exact .mk0 ⟨Nat.zero_le _, fun j x hj => absurd hj (Nat.not_lt_zero _)⟩ (by simp) (zar h _) rfl
    rintro i env H ⟨⟨hi, hinv⟩, hT, a0, henv⟩
    refine ⟨hi, ?_⟩
    rw [henv]
    generalize lk env = a
    clear henv env
    have hk2 := zac a0
    by_cases hlt : i < s.Items.length
    · obtain ⟨x, hx⟩ : ∃ x, s.Items[i]? = some x := ⟨_, List.getElem?_eq_getElem hlt⟩
      have hm := c_Few7 ⟨0, 0, 0, [], x.T, 0⟩ ⟨by simp, hs.items.2 x (List.mem_of_getElem? hx)⟩
      have hi9 : i < 9223372036854775807 := by omega
      have gx2 : qbg (eI x) [2] = some (eFs x.T) := rfl
      change Fn prog _ _ (.bool (few8i x)) at hm
      cases hb : few8i x with
      | true =>
        rw [hb] at hm
        repeat' (first
    | simp (implicitDefEqProofs := false) only [push_cast, reduceIte, reduceCtorEq, Nat.reduceAdd, Nat.reduceSub, Nat.reduceEqDiff, Nat.reduceLT, Nat.reduceLeDiff, Nat.reduceBEq, Nat.reduceMul, Int.reduceLT, Int.reduceLE, Int.reduceEq, Int.reduceToNat, Int.reduceMul, Int.reduceNeg, Go.Proofs.Try.f12, hT, a0, hk2, gI, gW, eI, List.length_map, zau hlt, yar hlt, zal eI hx, Int.toNat_natCast, yav, yax, zax, qae hi9, yad, zae, qac, zad, yab, qad, sst, qab, yaa, qaa, yaq, qdr, List.replicate_succ, List.drop_zero, zaj hk2, yag hk2, za4 hk2, yaj hk2]
    | refine Sp2.f ?_ ?_
    | refine Spl.f ?_ ?_ <;> intro hb
    | refine yac rfl (fun b hb => ?_)
    | refine zay hm ?_)
        exact .mk0 ⟨hlt, ybz hx hb hinv⟩ hT a0 rfl
      | false =>
        rw [hb] at hm
        repeat' (first
    | simp (implicitDefEqProofs := false) only [push_cast, reduceIte, reduceCtorEq, Nat.reduceAdd, Nat.reduceSub, Nat.reduceEqDiff, Nat.reduceLT, Nat.reduceLeDiff, Nat.reduceBEq, Nat.reduceMul, Int.reduceLT, Int.reduceLE, Int.reduceEq, Int.reduceToNat, Int.reduceMul, Int.reduceNeg, Go.Proofs.Try.f12, hT, a0, hk2, gI, gW, eI, List.length_map, zau hlt, yar hlt, zal eI hx, Int.toNat_natCast, yav, yax, zax, qae hi9, yad, zae, qac, zad, yab, qad, sst, qab, yaa, qaa, yaq, qdr, List.replicate_succ, List.drop_zero, zaj hk2, yag hk2, za4 hk2, yaj hk2]
    | refine Sp2.f ?_ ?_
    | refine Spl.f ?_ ?_ <;> intro hb
    | refine yac rfl (fun b hb => ?_)
    | refine zay hm ?_)
        simp only [fewS, all_bad hx hb, Bool.and_false, Bool.false_and]
    · have hall : s.Items.all few8i = true := ycm fun j x hj hx => hinv j x (by omega) hx
      clear hinv
      repeat' (first
    | simp (implicitDefEqProofs := false) only [push_cast, reduceIte, reduceCtorEq, Nat.reduceAdd, Nat.reduceSub, Nat.reduceEqDiff, Nat.reduceLT, Nat.reduceLeDiff, Nat.reduceBEq, Nat.reduceMul, Int.reduceLT, Int.reduceLE, Int.reduceEq, Int.reduceToNat, Int.reduceMul, Int.reduceNeg, Go.Proofs.Try.f12, a0, hk2, gI, gW, List.length_map, ya5 hlt, yad, zae, qac, zad, yab, qad, sst, qab, yaa, qaa, yaq, qdr, List.replicate_succ, List.drop_zero, zaj hk2, yag hk2, za4 hk2, yaj hk2]
    | refine Sp2.f ?_ ?_
    | refine Spl.f ?_ ?_ <;> intro hb
    | refine yac rfl (fun b hb => ?_))
      refine qau (GI1 h ⟨29, [eS s], .own⟩ (fun i => i ≤ s.Waiters.length ∧ ∀ j x, j < i → s.Waiters[j]? = some x → few8w x = true) (fun i a => [(0, eS s), (1, .ref h.length [0] 29), (2, .bool false), (3, a 3), (4, .int .i64 i), (5, a 5), (15, a 15), (20, a 20), (31, a 31), (36, a 36), (47, a 47), (49, a 49), (59, a 59)])) s.Waiters.length ?_ ?_
      · exact .mk0 ⟨Nat.zero_le _, fun j x hj => absurd hj (Nat.not_lt_zero _)⟩ hT a0 rfl
      clear hT a0 hk2 hlt hi a
      clear H i
      rintro i env H ⟨⟨hi, hinv⟩, hT, a0, henv⟩
      refine ⟨hi, ?_⟩
      rw [henv]
      generalize lk env = a
      clear henv env
      have hk2 := zac a0
      by_cases hlt : i < s.Waiters.length
      · obtain ⟨x, hx⟩ : ∃ x, s.Waiters[i]? = some x := ⟨_, List.getElem?_eq_getElem hlt⟩
        have hm := c_Few7 ⟨0, 0, 0, x.P, [], 0⟩ ⟨hs.waiters.2 x (List.mem_of_getElem? hx), by simp⟩
        have hi9 : i < 9223372036854775807 := by omega
        have gx3 : qbg (eW x) [3] = some (eFs x.P) := rfl
        change Fn prog _ _ (.bool (few8w x)) at hm
        cases hb : few8w x with
        | true =>
          rw [hb] at hm
          repeat' (first
    | simp (implicitDefEqProofs := false) only [push_cast, reduceIte, reduceCtorEq, Nat.reduceAdd, Nat.reduceSub, Nat.reduceEqDiff, Nat.reduceLT, Nat.reduceLeDiff, Nat.reduceBEq, Nat.reduceMul, Int.reduceLT, Int.reduceLE, Int.reduceEq, Int.reduceToNat, Int.reduceMul, Int.reduceNeg, Go.Proofs.Try.f12, hT, a0, hk2, gI, gW, eW, List.length_map, zau hlt, yar hlt, zal eW hx, Int.toNat_natCast, yav, yax, zax, qae hi9, yad, zae, qac, zad, yab, qad, sst, qab, yaa, qaa, yaq, qdr, List.replicate_succ, List.drop_zero, zaj hk2, yag hk2, za4 hk2, yaj hk2]
    | refine Sp2.f ?_ ?_
    | refine Spl.f ?_ ?_ <;> intro hb
    | refine yac rfl (fun b hb => ?_)
    | refine zay hm ?_)
          exact .mk0 ⟨hlt, ybz hx hb hinv⟩ hT a0 rfl
        | false =>
          rw [hb] at hm
          repeat' (first
    | simp (implicitDefEqProofs := false) only [push_cast, reduceIte, reduceCtorEq, Nat.reduceAdd, Nat.reduceSub, Nat.reduceEqDiff, Nat.reduceLT, Nat.reduceLeDiff, Nat.reduceBEq, Nat.reduceMul, Int.reduceLT, Int.reduceLE, Int.reduceEq, Int.reduceToNat, Int.reduceMul, Int.reduceNeg, Go.Proofs.Try.f12, hT, a0, hk2, gI, gW, eW, List.length_map, zau hlt, yar hlt, zal eW hx, Int.toNat_natCast, yav, yax, zax, qae hi9, yad, zae, qac, zad, yab, qad, sst, qab, yaa, qaa, yaq, qdr, List.replicate_succ, List.drop_zero, zaj hk2, yag hk2, za4 hk2, yaj hk2]
    | refine Sp2.f ?_ ?_
    | refine Spl.f ?_ ?_ <;> intro hb
    | refine yac rfl (fun b hb => ?_)
    | refine zay hm ?_)
          simp only [fewS, all_bad hx hb, Bool.and_false, Bool.false_and]
      · have hallW : s.Waiters.all few8w = true := ycm fun j x hj hx => hinv j x (by omega) hx
        clear hinv
        repeat' (first
    | simp (implicitDefEqProofs := false) only [push_cast, reduceIte, reduceCtorEq, Nat.reduceAdd, Nat.reduceSub, Nat.reduceEqDiff, Nat.reduceLT, Nat.reduceLeDiff, Nat.reduceBEq, Nat.reduceMul, Int.reduceLT, Int.reduceLE, Int.reduceEq, Int.reduceToNat, Int.reduceMul, Int.reduceNeg, Go.Proofs.Try.f12, a0, hk2, gI, gW, List.length_map, ya5 hlt, yad, zae, qac, zad, yab, qad, sst, qab, yaa, qaa, yaq, qdr, List.replicate_succ, List.drop_zero, zaj hk2, yag hk2, za4 hk2, yaj hk2]
    | refine Sp2.f ?_ ?_
    | refine Spl.f ?_ ?_ <;> intro hb
    | refine yac rfl (fun b hb => ?_))
        refine qau (GI1 h ⟨29, [eS s], .own⟩ (fun i => i ≤ s.Last.length ∧ ∀ j x, j < i → s.Last[j]? = some x → few8r x = true) (fun i a => [(0, eS s), (1, .ref h.length [0] 29), (2, .bool false), (3, a 3), (4, a 4), (5, .int .i64 i), (15, a 15), (20, a 20), (31, a 31), (36, a 36), (47, a 47), (49, a 49), (59, a 59)])) s.Last.length ?_ ?_
        · exact .mk0 ⟨Nat.zero_le _, fun j x hj => absurd hj (Nat.not_lt_zero _)⟩ hT a0 rfl
        clear hT a0 hk2 hlt hi a
        clear H i
        rintro i env H ⟨⟨hi, hinv⟩, hT, a0, henv⟩
        refine ⟨hi, ?_⟩
        rw [henv]
        generalize lk env = a
        clear henv env
        have hk2 := zac a0
        have h4 := hs.four
        by_cases hlt : i < s.Last.length
        · obtain ⟨x, hx⟩ : ∃ x, s.Last[i]? = some x := ⟨_, List.getElem?_eq_getElem hlt⟩
          have hm := c_Few7 ⟨0, 0, 0, [], x.T, 0⟩ ⟨by simp, hs.last.2 x (List.mem_of_getElem? hx)⟩
          have hi9 : i < 9223372036854775807 := by omega
          have hc4 : decide ((i : Int) < 4) = true := by simp; omega
          have hr4 : (0 ≤ (i : Int) ∧ (i : Int) < 4) = True := by simp; omega
          have gL : qbg (eS s) [5, i, 3] = some (eFs x.T) := by
            simp only [eS, qbg, List.getElem?_cons_succ, List.getElem?_cons_zero, eL, List.getElem?_map, hx, Option.map_some, eR]
          change Fn prog _ _ (.bool (few8r x)) at hm
          cases hb : few8r x with
          | true =>
            rw [hb] at hm
            repeat' (first
    | simp (implicitDefEqProofs := false) only [push_cast, reduceIte, reduceCtorEq, Nat.reduceAdd, Nat.reduceSub, Nat.reduceEqDiff, Nat.reduceLT, Nat.reduceLeDiff, Nat.reduceBEq, Nat.reduceMul, Int.reduceLT, Int.reduceLE, Int.reduceEq, Int.reduceToNat, Int.reduceMul, Int.reduceNeg, Go.Proofs.Try.f12, hT, a0, hk2, gL, hc4, hr4, qbz, Int.toNat_natCast, yav, yax, zax, qae hi9, yad, zae, qac, zad, yab, qad, sst, qab, yaa, qaa, yaq, qdr, List.replicate_succ, List.drop_zero, zaj hk2, yag hk2, za4 hk2, yaj hk2]
    | refine Sp2.f ?_ ?_
    | refine Spl.f ?_ ?_ <;> intro hb
    | refine yac rfl (fun b hb => ?_)
    | refine zay hm ?_)
            exact .mk0 ⟨hlt, ybz hx hb hinv⟩ hT a0 rfl
          | false =>
            rw [hb] at hm
            repeat' (first
    | simp (implicitDefEqProofs := false) only [push_cast, reduceIte, reduceCtorEq, Nat.reduceAdd, Nat.reduceSub, Nat.reduceEqDiff, Nat.reduceLT, Nat.reduceLeDiff, Nat.reduceBEq, Nat.reduceMul, Int.reduceLT, Int.reduceLE, Int.reduceEq, Int.reduceToNat, Int.reduceMul, Int.reduceNeg, Go.Proofs.Try.f12, hT, a0, hk2, gL, hc4, hr4, qbz, Int.toNat_natCast, yav, yax, zax, qae hi9, yad, zae, qac, zad, yab, qad, sst, qab, yaa, qaa, yaq, qdr, List.replicate_succ, List.drop_zero, zaj hk2, yag hk2, za4 hk2, yaj hk2]
    | refine Sp2.f ?_ ?_
    | refine Spl.f ?_ ?_ <;> intro hb
    | refine yac rfl (fun b hb => ?_)
    | refine zay hm ?_)
            simp only [fewS, all_bad hx hb, Bool.and_false, Bool.false_and]
        · have hL : s.Last.all few8r = true := ycm fun j x hj hx => hinv j x (by omega) hx
          have hc4 : decide ((i : Int) < 4) = false := by simp; omega
          repeat' (first
    | simp (implicitDefEqProofs := false) only [push_cast, reduceIte, reduceCtorEq, Nat.reduceAdd, Nat.reduceSub, Nat.reduceEqDiff, Nat.reduceLT, Nat.reduceLeDiff, Nat.reduceBEq, Nat.reduceMul, Int.reduceLT, Int.reduceLE, Int.reduceEq, Int.reduceToNat, Int.reduceMul, Int.reduceNeg, Go.Proofs.Try.f12, hT, a0, hk2, hc4, yad, zae, qac, zad, yab, qad, sst, qab, yaa, qaa, yaq, qdr, List.replicate_succ, List.drop_zero, zaj hk2, yag hk2, za4 hk2, yaj hk2]
    | refine Sp2.f ?_ ?_
    | refine Spl.f ?_ ?_ <;> intro hb
    | refine yac rfl (fun b hb => ?_))
          simp only [fewS, decide_eq_true hH.1, decide_eq_true hH.2, hall, hallW, hL, Bool.and_self]
  · have e : fewS s = false := by
      by_cases h1 : s.Items.length ≤ 100
      · have h2 : ¬ s.Waiters.length ≤ 100 := fun h2 => hH ⟨h1, h2⟩
        simp only [fewS, decide_eq_false h2, Bool.and_false, Bool.false_and]
      · simp only [fewS, decide_eq_false h1, Bool.false_and]
    rw [e]
    repeat' (first
    | simp (implicitDefEqProofs := false) only [push_cast, reduceIte, reduceCtorEq, Nat.reduceAdd, Nat.reduceSub, Nat.reduceEqDiff, Nat.reduceLT, Nat.reduceLeDiff, Nat.reduceBEq, Nat.reduceMul, Int.reduceLT, Int.reduceLE, Int.reduceEq, Int.reduceToNat, Int.reduceMul, Int.reduceNeg, Go.Proofs.Try.f12, gI, gW, qcp, zcq, ycp, List.length_map, yad, zae, qac, zad, yab, qad, sst, qab, yaa, qaa, yaq, qdr, List.replicate_succ, List.drop_zero]
    | refine Sp2.f ?_ ?_
    | refine Spl.f ?_ ?_ <;> intro hb
    | refine yac rfl (fun b hb => ?_))
    all_goals first
      | rfl
      | (exfalso; apply hH; constructor <;> grind)
end Go.Abs
