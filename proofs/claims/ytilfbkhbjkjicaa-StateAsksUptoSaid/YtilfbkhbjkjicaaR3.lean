/- R3: a part of the proofs about the tuple space and its bytes. -/
import Derived.Test.YtilfbkhbjkjicaaMq
set_option linter.all false
set_option maxRecDepth 100000
set_option maxHeartbeats 0
namespace Go.Abs
open Go
open Go.Proofs.Try (prog)
theorem c_Own (s : Spc) (c : Int) (hs : s.Items.length ≤ 4294967296) : Fn prog 49 [eS s, .int .i64 c] (.int .i64 (cnt s.Items c)) := by
  refine run_49 rfl fun h => ?_
  repeat' (first
    | simp (implicitDefEqProofs := false) only [push_cast, reduceIte, reduceCtorEq, Nat.reduceAdd, Nat.reduceSub, Nat.reduceEqDiff, Nat.reduceLT, Nat.reduceLeDiff, Nat.reduceBEq, Nat.reduceMul, Int.reduceLT, Int.reduceLE, Int.reduceEq, Int.reduceToNat, Int.reduceMul, Int.reduceNeg, Go.Proofs.Try.f49, eS, eIs, eWs, eL, List.length_map]
    | refine Sp2.f ?_ ?_
    | refine Spl.f ?_ ?_ <;> intro hb
    | refine yac rfl (fun b hb => ?_))
  refine qax (fun i a => [(0, eS s), (1, .int .i64 c), (2, .ref h.length [0] 29), (4, a 4), (5, .int .i64 (cnt (s.Items.take i) c)), (6, .int .i64 i), (11, a 11), (21, a 21)]) (fun i g => h ++ (⟨29, [eS s], .own⟩ :: g)) (fun i => i ≤ s.Items.length) s.Items.length (za3 rfl ⟨[], rfl⟩ (Nat.zero_le _)) ?_
  rintro i a g' hi
  refine ⟨hi, ?_⟩
  by_cases hlt : i < s.Items.length
  · obtain ⟨x, hx⟩ : ∃ x, s.Items[i]? = some x := ⟨_, List.getElem?_eq_getElem hlt⟩
    have hi9 : i < 9223372036854775807 := by omega
    have hst := cnt_take hx c
    have hbd : cnt (s.Items.take i) c < 9223372036854775807 := by have := cnt_le s.Items c i; have := cnt_len s.Items c; omega
    by_cases hc : x.Owner = c
    · have f1 : (x.Owner == c) = true := by simpa using hc
      rw [if_pos hc] at hst
      repeat' (first
    | simp (implicitDefEqProofs := false) only [push_cast, reduceIte, reduceCtorEq, Nat.reduceAdd, Nat.reduceSub, Nat.reduceEqDiff, Nat.reduceLT, Nat.reduceLeDiff, Nat.reduceBEq, Nat.reduceMul, Int.reduceLT, Int.reduceLE, Int.reduceEq, Int.reduceToNat, Int.reduceMul, Int.reduceNeg, Go.Proofs.Try.f49, eS, eI, eIs, eWs, eL, List.length_map, f1, zau hlt, yar hlt, zal eI hx, Int.toNat_natCast, qae hi9, qae hbd, qbz]
    | refine Sp2.f ?_ ?_
    | refine Spl.f ?_ ?_ <;> intro hb
    | refine yac rfl (fun b hb => ?_)
    | refine za3 (by rw [hst]; rfl) ⟨_, rfl⟩ hlt)
    · have f1 : (x.Owner == c) = false := by simpa using hc
      rw [if_neg hc, Nat.add_zero] at hst
      repeat' (first
    | simp (implicitDefEqProofs := false) only [push_cast, reduceIte, reduceCtorEq, Nat.reduceAdd, Nat.reduceSub, Nat.reduceEqDiff, Nat.reduceLT, Nat.reduceLeDiff, Nat.reduceBEq, Nat.reduceMul, Int.reduceLT, Int.reduceLE, Int.reduceEq, Int.reduceToNat, Int.reduceMul, Int.reduceNeg, Go.Proofs.Try.f49, eS, eI, eIs, eWs, eL, List.length_map, f1, zau hlt, yar hlt, zal eI hx, Int.toNat_natCast, qae hi9, qbz]
    | refine Sp2.f ?_ ?_
    | refine Spl.f ?_ ?_ <;> intro hb
    | refine yac rfl (fun b hb => ?_)
    | refine za3 (by rw [hst]; rfl) ⟨_, rfl⟩ hlt)
  · have e : s.Items.take i = s.Items := List.take_of_length_le (by omega)
    rw [e]
    repeat' (first
    | simp (implicitDefEqProofs := false) only [push_cast, reduceIte, reduceCtorEq, Nat.reduceAdd, Nat.reduceSub, Nat.reduceEqDiff, Nat.reduceLT, Nat.reduceLeDiff, Nat.reduceBEq, Nat.reduceMul, Int.reduceLT, Int.reduceLE, Int.reduceEq, Int.reduceToNat, Int.reduceMul, Int.reduceNeg, Go.Proofs.Try.f49, eS, eIs, eWs, eL, List.length_map, ya5 hlt]
    | refine Sp2.f ?_ ?_
    | refine Spl.f ?_ ?_ <;> intro hb
    | refine yac rfl (fun b hb => ?_))
theorem c_last6 (x : Rpl) (c : Int) (hx : x.T.length ≤ 4294967296) : Fn prog 51 [eR x, .int .i64 c] (.bool (zc7 x c)) := by
  have hm := c_MayTuple6 x.T hx
  rw [may6_2] at hm
  refine run_51 rfl fun h => ?_
  repeat' (first
    | simp (implicitDefEqProofs := false) only [push_cast, reduceIte, reduceCtorEq, Nat.reduceAdd, Nat.reduceSub, Nat.reduceEqDiff, Nat.reduceLT, Nat.reduceLeDiff, Nat.reduceBEq, Nat.reduceMul, Int.reduceLT, Int.reduceLE, Int.reduceEq, Int.reduceToNat, Int.reduceMul, Int.reduceNeg, Go.Proofs.Try.f51, eR, eFs, List.length_map, len_nil]
    | refine Sp2.f ?_ ?_
    | refine Spl.f ?_ ?_ <;> intro hb
    | refine yac rfl (fun b hb => ?_)
    | refine zay hm ?_)
  all_goals grind [zc7]
def headM6 (s : Spc) : Bool := decide (0 ≤ s.Now) && decide (s.Now ≤ 1099511627776) && decide (s.Items.length ≤ 64) && decide (s.Waiters.length ≤ 16) && decide (0 ≤ s.Read) && decide (s.Read ≤ 15) && decide (0 ≤ s.Write) && decide (s.Write ≤ 15)
def qdy (s : Spc) (x : Itm) : Bool := qdo x s.Now && decide (cnt s.Items x.Owner ≤ 24)
def mayM6 (s : Spc) : Bool := headM6 s && s.Items.all (qdy s) && s.Waiters.all ydt && qb0 zc7 s.Last [0, 1, 2, 3]
theorem mayM6_item {s : Spc} {i : Nat} {x : Itm} (hx : s.Items[i]? = some x) (h : qdy s x = false) : mayM6 s = false := by
  have : s.Items.all (qdy s) = false := by rw [List.all_eq_false]; exact ⟨x, List.mem_of_getElem? hx, by simp [h]⟩
  simp only [mayM6, this, Bool.and_false, Bool.false_and]
theorem mayM6_wtr {s : Spc} {i : Nat} {x : Wtr} (hx : s.Waiters[i]? = some x) (h : ydt x = false) : mayM6 s = false := by
  have : s.Waiters.all ydt = false := by rw [List.all_eq_false]; exact ⟨x, List.mem_of_getElem? hx, by simp [h]⟩
  simp only [mayM6, this, Bool.and_false, Bool.false_and]
theorem mayM6_eq (s : Spc) : mayM6 s = zbw s := by
  rw [Bool.eq_iff_iff]
  simp only [mayM6, zbw, headM6, mayH, qdy, Bool.and_eq_true, decide_eq_true_eq, List.all_eq_true]
  have f16 : ∀ v : Int, v.fdiv 16 = 0 ↔ 0 ≤ v ∧ v ≤ 15 := fun v => by
    rw [Int.fdiv_eq_ediv_of_nonneg _ (by omega)]; omega
  rw [f16, f16]
  constructor
  · rintro ⟨⟨⟨⟨⟨⟨⟨⟨⟨⟨h1, h2⟩, h3⟩, h4⟩, h5⟩, h6⟩, h7⟩, h8⟩, h9⟩, h10⟩, h11⟩
    refine ⟨⟨⟨⟨⟨⟨⟨⟨⟨h1, h2⟩, h5, h6⟩, h7, h8⟩, h3⟩, h4⟩, fun x hx => (h9 x hx).1⟩, fun c hc => ?_⟩, h10⟩, h11⟩
    by_cases h0 : cnt s.Items c = 0
    · omega
    · obtain ⟨x, hx, hc2⟩ := List.countP_pos_iff.1 (Nat.pos_of_ne_zero h0)
      have := (h9 x hx).2
      simp only [decide_eq_true_eq] at hc2
      rw [hc2] at this
      exact this
  · rintro ⟨⟨⟨⟨⟨⟨⟨⟨⟨h1, h2⟩, h5, h6⟩, h7, h8⟩, h3⟩, h4⟩, h9⟩, hc⟩, h10⟩, h11⟩
    refine ⟨⟨⟨⟨⟨⟨⟨⟨⟨⟨h1, h2⟩, h3⟩, h4⟩, h5⟩, h6⟩, h7⟩, h8⟩, fun x hx => ⟨h9 x hx, ?_⟩⟩, h10⟩, h11⟩
    have ho := own_cases (h9 x hx)
    exact hc x.Owner (by simpa using ho)
theorem c_MaySpace6 (s : Spc) (hs : s.Small) : Fn prog 14 [eS s] (.bool (mayM6 s)) := by
  refine run_14 rfl fun h => ?_
  have gN : qbg (eS s) [0] = some (.int .i64 s.Now) := rfl
  have gI : qbg (eS s) [1] = some (.list 87 (s.Items.map eI)) := rfl
  have gW : qbg (eS s) [2] = some (.list 89 (s.Waiters.map eW)) := rfl
  by_cases hH : headM6 s = true
  · have hH2 := hH
    simp only [headM6, Bool.and_eq_true, decide_eq_true_eq] at hH2
    have g1 : decide (s.Now < 0) = false := by simp; omega
    have g2 : decide ((1099511627776 : Int) < s.Now) = false := by simp; omega
    have g3 : decide ((64 : Int) < (s.Items.length : Int)) = false := by simp; omega
    have g4 : decide ((16 : Int) < (s.Waiters.length : Int)) = false := by simp; omega
    have g5 : decide (s.Read < 0) = false := by simp; omega
    have g6 : decide ((15 : Int) < s.Read) = false := by simp; omega
    have g7 : decide (s.Write < 0) = false := by simp; omega
    have g8 : decide ((15 : Int) < s.Write) = false := by simp; omega
    repeat' (first
    | simp (implicitDefEqProofs := false) only [push_cast, reduceIte, reduceCtorEq, Nat.reduceAdd, Nat.reduceSub, Nat.reduceEqDiff, Nat.reduceLT, Nat.reduceLeDiff, Nat.reduceBEq, Nat.reduceMul, Int.reduceLT, Int.reduceLE, Int.reduceEq, Int.reduceToNat, Int.reduceMul, Int.reduceNeg, Go.Proofs.Try.f14, eS, eIs, eWs, eL, List.length_map, g1, g2, g3, g4, g5, g6, g7, g8]
    | refine Sp2.f ?_ ?_
    | refine Spl.f ?_ ?_ <;> intro hb
    | refine yac rfl (fun b hb => ?_))
    refine qau (GI1 h ⟨29, [eS s], .own⟩ (fun i => i ≤ s.Items.length ∧ ∀ j x, j < i → s.Items[j]? = some x → qdy s x = true) (fun i a => [(0, eS s), (1, .ref h.length [0] 29), (2, .bool false), (3, .int .i64 i), (4, a 4), (5, a 5), (6, a 6), (7, a 7), (47, a 47), (52, a 52), (97, a 97), (102, a 102), (133, a 133), (135, a 135), (144, a 144)])) s.Items.length ?_ ?_
    · exact .mk0 ⟨Nat.zero_le _, fun j x hj => absurd hj (Nat.not_lt_zero _)⟩ (by simp) (zar h _) rfl
    rintro i env H ⟨⟨hi, hinv⟩, hT, a0, henv⟩
    refine ⟨hi, ?_⟩
    rw [henv]
    generalize lk env = a
    clear henv env
    have hk2 := zac a0
    by_cases hlt : i < s.Items.length
    · obtain ⟨x, hx⟩ : ∃ x, s.Items[i]? = some x := ⟨_, List.getElem?_eq_getElem hlt⟩
      have hxT := hs.items.2 x (List.mem_of_getElem? hx)
      have hm := c_MayTuple6 x.T hxT
      rw [may6_2] at hm
      have hi9 : i < 9223372036854775807 := by have := hs.items.1; omega
      have hw := c_Own s x.Owner hs.items.1
      have gx0 : qbg (eI x) [0] = some (.int .i64 x.Owner) := rfl
      have gx1 : qbg (eI x) [1] = some (.int .i64 x.Until) := rfl
      have gx2 : qbg (eI x) [2] = some (eFs x.T) := rfl
      have hTl : ∀ l : List Entry, (H ++ l).take h.length = h := fun l => by rw [List.take_append_of_le_length (by omega)]; exact hT
      repeat' (first
    | simp (implicitDefEqProofs := false) only [push_cast, reduceIte, reduceCtorEq, Nat.reduceAdd, Nat.reduceSub, Nat.reduceEqDiff, Nat.reduceLT, Nat.reduceLeDiff, Nat.reduceBEq, Nat.reduceMul, Int.reduceLT, Int.reduceLE, Int.reduceEq, Int.reduceToNat, Int.reduceMul, Int.reduceNeg, Go.Proofs.Try.f14, hTl, a0, hk2, gN, gI, gW, gx0, gx1, gx2, eI_ty, eI_pl, eI_wk, qcp, zcq, ycp, List.length_map, zau hlt, yar hlt, zal eI hx, Int.toNat_natCast, yav, yax, zax, qae hi9, yad, zae, qac, zad, yab, qad, sst, qab, yaa, qaa, yaq, qdr, List.replicate_succ, List.drop_zero, zaj hk2, yag hk2, za4 hk2, yaj hk2]
    | refine Sp2.f ?_ ?_
    | refine Spl.f ?_ ?_ <;> intro hb
    | refine yac rfl (fun b hb => ?_)
    | refine zay hm ?_
    | refine zay hw ?_)
      all_goals first
        | (rw [mayM6_item hx (by simp only [qdy, qdo, zat]; grind)]; done)
        | exact .mk ⟨hlt, ybz hx (by simp only [qdy, qdo, zat]; grind) hinv⟩ hT a0 rfl
    · have hall : s.Items.all (qdy s) = true := ycm fun j x hj hx => hinv j x (by omega) hx
      clear hinv
      repeat' (first
    | simp (implicitDefEqProofs := false) only [push_cast, reduceIte, reduceCtorEq, Nat.reduceAdd, Nat.reduceSub, Nat.reduceEqDiff, Nat.reduceLT, Nat.reduceLeDiff, Nat.reduceBEq, Nat.reduceMul, Int.reduceLT, Int.reduceLE, Int.reduceEq, Int.reduceToNat, Int.reduceMul, Int.reduceNeg, Go.Proofs.Try.f14, a0, hk2, gN, gI, gW, List.length_map, ya5 hlt, yad, zae, qac, zad, yab, qad, sst, qab, yaa, qaa, yaq, qdr, List.replicate_succ, List.drop_zero, zaj hk2, yag hk2, za4 hk2, yaj hk2]
    | refine Sp2.f ?_ ?_
    | refine Spl.f ?_ ?_ <;> intro hb
    | refine yac rfl (fun b hb => ?_))
      refine qau (GI1 h ⟨29, [eS s], .own⟩ (fun i => i ≤ s.Waiters.length ∧ ∀ j x, j < i → s.Waiters[j]? = some x → ydt x = true) (fun i a => [(0, eS s), (1, .ref h.length [0] 29), (2, .bool false), (3, a 3), (4, a 4), (5, .int .i64 i), (6, a 6), (7, a 7), (47, a 47), (52, a 52), (97, a 97), (102, a 102), (133, a 133), (135, a 135), (144, a 144)])) s.Waiters.length ?_ ?_
      · exact .mk0 ⟨Nat.zero_le _, fun j x hj => absurd hj (Nat.not_lt_zero _)⟩ hT a0 rfl
      clear hT a0 hk2 hlt hi a
      clear H i
      rintro i env H ⟨⟨hi, hinv⟩, hT, a0, henv⟩
      refine ⟨hi, ?_⟩
      rw [henv]
      generalize lk env = a
      clear henv env
      have hk2 := zac a0
      by_cases hlt : i < s.Waiters.length
      · obtain ⟨x, hx⟩ : ∃ x, s.Waiters[i]? = some x := ⟨_, List.getElem?_eq_getElem hlt⟩
        have hxP := hs.waiters.2 x (List.mem_of_getElem? hx)
        have hm := zc9 x.P hxP
        rw [may6_5] at hm
        have hi9 : i < 9223372036854775807 := by have := hs.waiters.1; omega
        have gx0 : qbg (eW x) [0] = some (.int .i64 x.Client) := rfl
        have gx1 : qbg (eW x) [1] = some (.int .i64 x.Seq) := rfl
        have gx3 : qbg (eW x) [3] = some (eFs x.P) := rfl
        have hTl : ∀ l : List Entry, (H ++ l).take h.length = h := fun l => by rw [List.take_append_of_le_length (by omega)]; exact hT
        repeat' (first
    | simp (implicitDefEqProofs := false) only [push_cast, reduceIte, reduceCtorEq, Nat.reduceAdd, Nat.reduceSub, Nat.reduceEqDiff, Nat.reduceLT, Nat.reduceLeDiff, Nat.reduceBEq, Nat.reduceMul, Int.reduceLT, Int.reduceLE, Int.reduceEq, Int.reduceToNat, Int.reduceMul, Int.reduceNeg, Go.Proofs.Try.f14, hTl, a0, hk2, gN, gI, gW, gx0, gx1, gx3, eW_ty, eW_pl, eW_wk, List.length_map, zau hlt, yar hlt, zal eW hx, Int.toNat_natCast, yav, yax, zax, qae hi9, yad, zae, qac, zad, yab, qad, sst, qab, yaa, qaa, yaq, qdr, List.replicate_succ, List.drop_zero, zaj hk2, yag hk2, za4 hk2, yaj hk2]
    | refine Sp2.f ?_ ?_
    | refine Spl.f ?_ ?_ <;> intro hb
    | refine yac rfl (fun b hb => ?_)
    | refine zay hm ?_)
        all_goals first
          | (rw [mayM6_wtr hx (by simp only [ydt, zat]; grind)]; done)
          | exact .mk ⟨hlt, ybz hx (by simp only [ydt, zat]; grind) hinv⟩ hT a0 rfl
      · have hallW : s.Waiters.all ydt = true := ycm fun j x hj hx => hinv j x (by omega) hx
        clear hinv
        repeat' (first
    | simp (implicitDefEqProofs := false) only [push_cast, reduceIte, reduceCtorEq, Nat.reduceAdd, Nat.reduceSub, Nat.reduceEqDiff, Nat.reduceLT, Nat.reduceLeDiff, Nat.reduceBEq, Nat.reduceMul, Int.reduceLT, Int.reduceLE, Int.reduceEq, Int.reduceToNat, Int.reduceMul, Int.reduceNeg, Go.Proofs.Try.f14, a0, hk2, gN, gI, gW, List.length_map, ya5 hlt, yad, zae, qac, zad, yab, qad, sst, qab, yaa, qaa, yaq, qdr, List.replicate_succ, List.drop_zero, zaj hk2, yag hk2, za4 hk2, yaj hk2]
    | refine Sp2.f ?_ ?_
    | refine Spl.f ?_ ?_ <;> intro hb
    | refine yac rfl (fun b hb => ?_))
        refine qau (GI1 h ⟨29, [eS s], .own⟩ (fun i => i ≤ s.Last.length ∧ (∀ j x y, j < i → s.Last[j]? = some x → [(0 : Int), 1, 2, 3][j]? = some y → zc7 x y = true)) (fun i a => [(0, eS s), (1, .ref h.length [0] 29), (2, .bool false), (3, a 3), (4, a 4), (5, a 5), (6, a 6), (7, .int .i64 i), (47, a 47), (52, a 52), (97, a 97), (102, a 102), (133, a 133), (135, a 135), (144, a 144)])) s.Last.length ?_ ?_
        · exact .mk0 ⟨Nat.zero_le _, fun j x y hj => absurd hj (Nat.not_lt_zero _)⟩ hT a0 rfl
        clear hT a0 hk2 hlt hi a
        clear H i
        rintro i env H ⟨⟨hi, hinv⟩, hT, a0, henv⟩
        refine ⟨hi, ?_⟩
        rw [henv]
        generalize lk env = a
        clear henv env
        have hk2 := zac a0
        have h4 := hs.four
        by_cases hlt : i < s.Last.length
        · obtain ⟨x, hx⟩ : ∃ x, s.Last[i]? = some x := ⟨_, List.getElem?_eq_getElem hlt⟩
          have hxT := hs.last.2 x (List.mem_of_getElem? hx)
          have hi9 : i < 9223372036854775807 := by omega
          have hi4 : i < 4 := by omega
          have hy : [(0 : Int), 1, 2, 3][i]? = some (i : Int) := by
            rcases (by omega : i = 0 ∨ i = 1 ∨ i = 2 ∨ i = 3) with rfl | rfl | rfl | rfl <;> rfl
          have hc4 : decide ((i : Int) < 4) = true := by simp; omega
          have hr4 : (0 ≤ (i : Int) ∧ (i : Int) < 4) = True := by simp; omega
          have gL : qbg (eS s) [5, i] = some (eR x) := by
            simp only [eS, qbg, List.getElem?_cons_succ, List.getElem?_cons_zero, eL, List.getElem?_map, hx, Option.map_some]
          have hm := c_last6 x i hxT
          cases hb : zc7 x i with
          | true =>
            rw [hb] at hm
            repeat' (first
    | simp (implicitDefEqProofs := false) only [push_cast, reduceIte, reduceCtorEq, Nat.reduceAdd, Nat.reduceSub, Nat.reduceEqDiff, Nat.reduceLT, Nat.reduceLeDiff, Nat.reduceBEq, Nat.reduceMul, Int.reduceLT, Int.reduceLE, Int.reduceEq, Int.reduceToNat, Int.reduceMul, Int.reduceNeg, Go.Proofs.Try.f14, a0, hk2, gL, hc4, hr4, qbz, Int.toNat_natCast, eR_ty, eR_pl, eR_wk, qae hi9, yad, zae, qac, zad, yab, qad, sst, qab, yaa, qaa, yaq, qdr, List.replicate_succ, List.drop_zero, zaj hk2, yag hk2, za4 hk2, yaj hk2]
    | refine Sp2.f ?_ ?_
    | refine Spl.f ?_ ?_ <;> intro hb
    | refine yac rfl (fun b hb => ?_)
    | refine zay hm ?_)
            exact .mk0 ⟨hlt, qbf hx hy hb hinv⟩ hT a0 rfl
          | false =>
            rw [hb] at hm
            repeat' (first
    | simp (implicitDefEqProofs := false) only [push_cast, reduceIte, reduceCtorEq, Nat.reduceAdd, Nat.reduceSub, Nat.reduceEqDiff, Nat.reduceLT, Nat.reduceLeDiff, Nat.reduceBEq, Nat.reduceMul, Int.reduceLT, Int.reduceLE, Int.reduceEq, Int.reduceToNat, Int.reduceMul, Int.reduceNeg, Go.Proofs.Try.f14, hT, a0, hk2, gL, hc4, hr4, qbz, Int.toNat_natCast, eR_ty, eR_pl, eR_wk, qae hi9, yad, zae, qac, zad, yab, qad, sst, qab, yaa, qaa, yaq, qdr, List.replicate_succ, List.drop_zero, zaj hk2, yag hk2, za4 hk2, yaj hk2]
    | refine Sp2.f ?_ ?_
    | refine Spl.f ?_ ?_ <;> intro hb
    | refine yac rfl (fun b hb => ?_)
    | refine zay hm ?_)
            have : qb0 zc7 s.Last [0, 1, 2, 3] = false := zbo hx hy hb
            simp only [mayM6, this, Bool.and_false]
        · have hL : qb0 zc7 s.Last [0, 1, 2, 3] = true := zbx (by simpa using h4) fun j x y hj hx hy => hinv j x y (by omega) hx hy
          have hc4 : decide ((i : Int) < 4) = false := by simp; omega
          repeat' (first
    | simp (implicitDefEqProofs := false) only [push_cast, reduceIte, reduceCtorEq, Nat.reduceAdd, Nat.reduceSub, Nat.reduceEqDiff, Nat.reduceLT, Nat.reduceLeDiff, Nat.reduceBEq, Nat.reduceMul, Int.reduceLT, Int.reduceLE, Int.reduceEq, Int.reduceToNat, Int.reduceMul, Int.reduceNeg, Go.Proofs.Try.f14, hT, a0, hk2, hc4, yad, zae, qac, zad, yab, qad, sst, qab, yaa, qaa, yaq, qdr, List.replicate_succ, List.drop_zero, zaj hk2, yag hk2, za4 hk2, yaj hk2]
    | refine Sp2.f ?_ ?_
    | refine Spl.f ?_ ?_ <;> intro hb
    | refine yac rfl (fun b hb => ?_))
          simp only [mayM6, hH, hall, hallW, hL, Bool.and_self]
  · have hH : headM6 s = false := by simpa using hH
    have e : mayM6 s = false := by simp only [mayM6, hH, Bool.false_and]
    rw [e]
    have hcs : s.Now < 0 ∨ 1099511627776 < s.Now ∨ 64 < s.Items.length ∨ 16 < s.Waiters.length ∨ s.Read < 0 ∨ 15 < s.Read ∨ s.Write < 0 ∨ 15 < s.Write := by
      by_cases hn : 0 ≤ s.Now ∧ s.Now ≤ 1099511627776 ∧ s.Items.length ≤ 64 ∧ s.Waiters.length ≤ 16 ∧ 0 ≤ s.Read ∧ s.Read ≤ 15 ∧ 0 ≤ s.Write ∧ s.Write ≤ 15
      · simp only [headM6, decide_eq_true hn.1, decide_eq_true hn.2.1, decide_eq_true hn.2.2.1, decide_eq_true hn.2.2.2.1, decide_eq_true hn.2.2.2.2.1, decide_eq_true hn.2.2.2.2.2.1, decide_eq_true hn.2.2.2.2.2.2.1, decide_eq_true hn.2.2.2.2.2.2.2, Bool.and_self] at hH
        cases hH
      · omega
    repeat' (first
    | simp (implicitDefEqProofs := false) only [push_cast, reduceIte, reduceCtorEq, Nat.reduceAdd, Nat.reduceSub, Nat.reduceEqDiff, Nat.reduceLT, Nat.reduceLeDiff, Nat.reduceBEq, Nat.reduceMul, Int.reduceLT, Int.reduceLE, Int.reduceEq, Int.reduceToNat, Int.reduceMul, Int.reduceNeg, Go.Proofs.Try.f14, eS, eIs, eWs, eL, List.length_map]
    | refine Sp2.f ?_ ?_
    | refine Spl.f ?_ ?_ <;> intro hb
    | refine yac rfl (fun b hb => ?_))
    all_goals first
      | rfl
      | (exfalso; simp only [decide_eq_true_eq, decide_eq_false_iff_not] at *; omega)
end Go.Abs
