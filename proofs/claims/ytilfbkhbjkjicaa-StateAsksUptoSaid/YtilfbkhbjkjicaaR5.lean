/- R5: a part of the proofs about the tuple space and its bytes. -/
import Derived.Test.YtilfbkhbjkjicaaR4
import Derived.Test.YtilfbkhbjkjicaaN6
set_option linter.all false
set_option maxRecDepth 100000
set_option maxHeartbeats 0
namespace Go.Abs
open Go
open Go.Proofs.Try (prog)
theorem sameS_items {a b : Spc} (h : qb0 smI a.Items b.Items = false) : yds a b = false := by
  simp only [yds, h, Bool.false_and, Bool.and_false]
theorem sameS_wtrs {a b : Spc} (h : qb0 smW a.Waiters b.Waiters = false) : yds a b = false := by
  simp only [yds, h, Bool.false_and, Bool.and_false]
theorem sameS_last {a b : Spc} (h : qb0 smR a.Last b.Last = false) : yds a b = false := by
  simp only [yds, h, Bool.and_false]
theorem c_SameSpace6 (s t : Spc) (hs : s.Small) (ht : t.Small) : Fn prog 22 [eS s, eS t] (.bool (yds s t)) := by
  refine run_22 rfl fun h => ?_
  have gN : ∀ s : Spc, qbg (eS s) [0] = some (.int .i64 s.Now) := fun _ => rfl
  have gI : ∀ s : Spc, qbg (eS s) [1] = some (.list 87 (s.Items.map eI)) := fun _ => rfl
  have gW : ∀ s : Spc, qbg (eS s) [2] = some (.list 89 (s.Waiters.map eW)) := fun _ => rfl
  have gR : ∀ s : Spc, qbg (eS s) [3] = some (.int .i64 s.Read) := fun _ => rfl
  have gX : ∀ s : Spc, qbg (eS s) [4] = some (.int .i64 s.Write) := fun _ => rfl
  by_cases hh : s.Now = t.Now ∧ s.Read = t.Read ∧ s.Write = t.Write ∧ s.Items.length = t.Items.length ∧ s.Waiters.length = t.Waiters.length
  · obtain ⟨h1, h2, h3, h4, h5⟩ := hh
    have f1 : (s.Now != t.Now) = false := by simp [h1]
    have f2 : (s.Read != t.Read) = false := by simp [h2]
    have f3 : (s.Write != t.Write) = false := by simp [h3]
    repeat' (first
    | simp (implicitDefEqProofs := false) only [push_cast, reduceIte, reduceCtorEq, Nat.reduceAdd, Nat.reduceSub, Nat.reduceEqDiff, Nat.reduceLT, Nat.reduceLeDiff, Nat.reduceBEq, Nat.reduceMul, Int.reduceLT, Int.reduceLE, Int.reduceEq, Int.reduceToNat, Int.reduceMul, Int.reduceNeg, Go.Proofs.Try.f22, gN, gI, gW, gR, gX, qcp, zcq, ycp, List.length_map, f1, f2, f3, eq_len h4, eq_len h5, yad, zae, qac, zad, yab, qad, sst, qab, yaa, qaa, yaq, qdr, List.replicate_succ, List.drop_zero]
    | refine Sp2.f ?_ ?_
    | refine Spl.f ?_ ?_ <;> intro hb
    | refine yac rfl (fun b hb => ?_)
    | refine zaa (U := [[], [], [], [], [], [], [], [], [], [], [1, 4, 6, 9], [1, 4, 6, 9, 10], [6, 9], []]) (H := [⟨0, [], .hole⟩, ⟨0, [], .hole⟩]) zaf (by kernel_rfl) (by decide +kernel) (by kernel_rfl) ?_
    | refine zaa (U := [[], [], [], [], [], [], [], [], [], [], [1, 4, 6, 9], [1, 4, 6, 9, 10], [6, 9], []]) (H := [⟨0, [], .hole⟩, ⟨0, [], .hole⟩]) zaf (by kernel_rfl) (by decide +kernel) (by kernel_rfl) ?_
    | refine zaa (U := [[], [], [], [], [], [], [], [], [], []]) (H := []) zaf (by kernel_rfl) (by decide +kernel) (by kernel_rfl) ?_)
    refine qau (GI2 h ⟨29, [eS s], .own⟩ ⟨29, [eS t], .own⟩ (fun i => i ≤ s.Items.length ∧ ∀ j x y, j < i → s.Items[j]? = some x → t.Items[j]? = some y → smI x y = true) (fun i a => [(0, eS s), (1, eS t), (2, .ref h.length [0] 29), (3, .ref (h.length + 1) [0] 29), (4, .bool false), (5, .int .i64 i), (6, a 6), (7, a 7), (8, a 8), (9, a 9), (10, a 10), (11, a 11), (48, a 48), (53, a 53), (85, a 85), (90, a 90), (129, a 129), (131, a 131), (143, a 143)])) s.Items.length ?_ ?_
    · exact ⟨⟨Nat.zero_le _, fun j x y hj => absurd hj (Nat.not_lt_zero _)⟩, by simp, zar h _, qa9 h _ 1, rfl⟩
    rintro i env H ⟨⟨hi, hinv⟩, hT, a0, a1, henv⟩
    refine ⟨hi, ?_⟩
    rw [henv]
    generalize lk env = a
    clear henv env
    have hk2 := zac a0
    have hkg := zac a1
    by_cases hlt : i < s.Items.length
    · have hlt' : i < t.Items.length := by omega
      have hx : s.Items[i]? = some s.Items[i] := List.getElem?_eq_getElem hlt
      have hy : t.Items[i]? = some t.Items[i] := List.getElem?_eq_getElem hlt'
      generalize s.Items[i] = x at hx
      generalize t.Items[i] = y at hy
      have hi9 : i < 9223372036854775807 := by have := hs.items.1; omega
      have hf := qcz x.T y.T (hs.items.2 x (List.mem_of_getElem? hx)) (ht.items.2 y (List.mem_of_getElem? hy))
      have hTl : ∀ l : List Entry, (H ++ l).take h.length = h := fun l => by rw [List.take_append_of_le_length (by omega)]; exact hT
      repeat' (first
    | simp (implicitDefEqProofs := false) only [push_cast, reduceIte, reduceCtorEq, Nat.reduceAdd, Nat.reduceSub, Nat.reduceEqDiff, Nat.reduceLT, Nat.reduceLeDiff, Nat.reduceBEq, Nat.reduceMul, Int.reduceLT, Int.reduceLE, Int.reduceEq, Int.reduceToNat, Int.reduceMul, Int.reduceNeg, Go.Proofs.Try.f22, hTl, a0, a1, hk2, hkg, gN, gI, gW, gR, gX, eI, qcp, zcq, ycp, List.length_map, zau hlt, yar hlt, yar hlt', zal eI hx, zal eI hy, Int.toNat_natCast, yav, yax, zax, qae hi9, yad, zae, qac, zad, yab, qad, sst, qab, yaa, qaa, yaq, qdr, List.replicate_succ, List.drop_zero, zaj hk2, yag hk2, za4 hk2, yaj hk2, zaj hkg, yag hkg, za4 hkg, yaj hkg]
    | refine Sp2.f ?_ ?_
    | refine Spl.f ?_ ?_ <;> intro hb
    | refine yac rfl (fun b hb => ?_)
    | refine zaa (U := [[], [], [], [], [], [], [], [], [], [], [1, 4, 6, 9], [1, 4, 6, 9, 10], [6, 9], []]) (H := [⟨0, [], .hole⟩, ⟨0, [], .hole⟩]) zaf (by kernel_rfl) (by decide +kernel) (by kernel_rfl) ?_
    | refine zaa (U := [[], [], [], [], [], [], [], [], [], [], [1, 4, 6, 9], [1, 4, 6, 9, 10], [6, 9], []]) (H := [⟨0, [], .hole⟩, ⟨0, [], .hole⟩]) zaf (by kernel_rfl) (by decide +kernel) (by kernel_rfl) ?_
    | refine zaa (U := [[], [], [], [], [], [], [], [], [], []]) (H := []) zaf (by kernel_rfl) (by decide +kernel) (by kernel_rfl) ?_
    | refine zay hf ?_)
      all_goals first
        | (rw [sameS_items (zbo hx hy (by simp only [smI, sameT]; grind))]; done)
        | exact .mk ⟨hlt, qbf hx hy (by simp only [smI, sameT]; grind) hinv⟩ hT a0 a1 rfl
    · have hI : qb0 smI s.Items t.Items = true := zbx h4 fun j x y hj => hinv j x y (by omega)
      clear hinv
      repeat' (first
    | simp (implicitDefEqProofs := false) only [push_cast, reduceIte, reduceCtorEq, Nat.reduceAdd, Nat.reduceSub, Nat.reduceEqDiff, Nat.reduceLT, Nat.reduceLeDiff, Nat.reduceBEq, Nat.reduceMul, Int.reduceLT, Int.reduceLE, Int.reduceEq, Int.reduceToNat, Int.reduceMul, Int.reduceNeg, Go.Proofs.Try.f22, a0, a1, hk2, hkg, gN, gI, gW, gR, gX, List.length_map, ya5 hlt, yad, zae, qac, zad, yab, qad, sst, qab, yaa, qaa, yaq, qdr, List.replicate_succ, List.drop_zero, zaj hk2, yag hk2, za4 hk2, yaj hk2, zaj hkg, yag hkg, za4 hkg, yaj hkg]
    | refine Sp2.f ?_ ?_
    | refine Spl.f ?_ ?_ <;> intro hb
    | refine yac rfl (fun b hb => ?_)
    | refine zaa (U := [[], [], [], [], [], [], [], [], [], [], [1, 4, 6, 9], [1, 4, 6, 9, 10], [6, 9], []]) (H := [⟨0, [], .hole⟩, ⟨0, [], .hole⟩]) zaf (by kernel_rfl) (by decide +kernel) (by kernel_rfl) ?_
    | refine zaa (U := [[], [], [], [], [], [], [], [], [], [], [1, 4, 6, 9], [1, 4, 6, 9, 10], [6, 9], []]) (H := [⟨0, [], .hole⟩, ⟨0, [], .hole⟩]) zaf (by kernel_rfl) (by decide +kernel) (by kernel_rfl) ?_
    | refine zaa (U := [[], [], [], [], [], [], [], [], [], []]) (H := []) zaf (by kernel_rfl) (by decide +kernel) (by kernel_rfl) ?_)
      refine qau (GI2 h ⟨29, [eS s], .own⟩ ⟨29, [eS t], .own⟩ (fun i => i ≤ s.Waiters.length ∧ ∀ j x y, j < i → s.Waiters[j]? = some x → t.Waiters[j]? = some y → smW x y = true) (fun i a => [(0, eS s), (1, eS t), (2, .ref h.length [0] 29), (3, .ref (h.length + 1) [0] 29), (4, .bool false), (5, a 5), (6, a 6), (7, a 7), (8, .int .i64 i), (9, a 9), (10, a 10), (11, a 11), (48, a 48), (53, a 53), (85, a 85), (90, a 90), (129, a 129), (131, a 131), (143, a 143)])) s.Waiters.length ?_ ?_
      · exact ⟨⟨Nat.zero_le _, fun j x y hj => absurd hj (Nat.not_lt_zero _)⟩, hT, a0, a1, rfl⟩
      clear hT a0 a1 hk2 hkg hlt hi a
      clear H i
      rintro i env H ⟨⟨hi, hinv⟩, hT, a0, a1, henv⟩
      refine ⟨hi, ?_⟩
      rw [henv]
      generalize lk env = a
      clear henv env
      have hk2 := zac a0
      have hkg := zac a1
      have hTl : ∀ l : List Entry, (H ++ l).take h.length = h := fun l => by rw [List.take_append_of_le_length (by omega)]; exact hT
      by_cases hlt : i < s.Waiters.length
      · have hlt' : i < t.Waiters.length := by omega
        have hx : s.Waiters[i]? = some s.Waiters[i] := List.getElem?_eq_getElem hlt
        have hy : t.Waiters[i]? = some t.Waiters[i] := List.getElem?_eq_getElem hlt'
        generalize s.Waiters[i] = x at hx
        generalize t.Waiters[i] = y at hy
        have hi9 : i < 9223372036854775807 := by have := hs.waiters.1; omega
        have hf := qcz x.P y.P (hs.waiters.2 x (List.mem_of_getElem? hx)) (ht.waiters.2 y (List.mem_of_getElem? hy))
        repeat' (first
    | simp (implicitDefEqProofs := false) only [push_cast, reduceIte, reduceCtorEq, Nat.reduceAdd, Nat.reduceSub, Nat.reduceEqDiff, Nat.reduceLT, Nat.reduceLeDiff, Nat.reduceBEq, Nat.reduceMul, Int.reduceLT, Int.reduceLE, Int.reduceEq, Int.reduceToNat, Int.reduceMul, Int.reduceNeg, Go.Proofs.Try.f22, hTl, a0, a1, hk2, hkg, gN, gI, gW, gR, gX, eW, qcp, zcq, ycp, List.length_map, zau hlt, yar hlt, yar hlt', zal eW hx, zal eW hy, Int.toNat_natCast, yav, yax, zax, qae hi9, yad, zae, qac, zad, yab, qad, sst, qab, yaa, qaa, yaq, qdr, List.replicate_succ, List.drop_zero, zaj hk2, yag hk2, za4 hk2, yaj hk2, zaj hkg, yag hkg, za4 hkg, yaj hkg]
    | refine Sp2.f ?_ ?_
    | refine Spl.f ?_ ?_ <;> intro hb
    | refine yac rfl (fun b hb => ?_)
    | refine zaa (U := [[], [], [], [], [], [], [], [], [], [], [1, 4, 6, 9], [1, 4, 6, 9, 10], [6, 9], []]) (H := [⟨0, [], .hole⟩, ⟨0, [], .hole⟩]) zaf (by kernel_rfl) (by decide +kernel) (by kernel_rfl) ?_
    | refine zaa (U := [[], [], [], [], [], [], [], [], [], [], [1, 4, 6, 9], [1, 4, 6, 9, 10], [6, 9], []]) (H := [⟨0, [], .hole⟩, ⟨0, [], .hole⟩]) zaf (by kernel_rfl) (by decide +kernel) (by kernel_rfl) ?_
    | refine zaa (U := [[], [], [], [], [], [], [], [], [], []]) (H := []) zaf (by kernel_rfl) (by decide +kernel) (by kernel_rfl) ?_
    | refine zay hf ?_)
        all_goals first
          | (rw [sameS_wtrs (zbo hx hy (by simp only [smW, sameT]; grind))]; done)
          | exact .mk ⟨hlt, qbf hx hy (by simp only [smW, sameT]; grind) hinv⟩ hT a0 a1 rfl
      · have hW : qb0 smW s.Waiters t.Waiters = true := zbx h5 fun j x y hj => hinv j x y (by omega)
        clear hinv
        repeat' (first
    | simp (implicitDefEqProofs := false) only [push_cast, reduceIte, reduceCtorEq, Nat.reduceAdd, Nat.reduceSub, Nat.reduceEqDiff, Nat.reduceLT, Nat.reduceLeDiff, Nat.reduceBEq, Nat.reduceMul, Int.reduceLT, Int.reduceLE, Int.reduceEq, Int.reduceToNat, Int.reduceMul, Int.reduceNeg, Go.Proofs.Try.f22, a0, a1, hk2, hkg, gN, gI, gW, gR, gX, List.length_map, ya5 hlt, yad, zae, qac, zad, yab, qad, sst, qab, yaa, qaa, yaq, qdr, List.replicate_succ, List.drop_zero, zaj hk2, yag hk2, za4 hk2, yaj hk2, zaj hkg, yag hkg, za4 hkg, yaj hkg]
    | refine Sp2.f ?_ ?_
    | refine Spl.f ?_ ?_ <;> intro hb
    | refine yac rfl (fun b hb => ?_)
    | refine zaa (U := [[], [], [], [], [], [], [], [], [], [], [1, 4, 6, 9], [1, 4, 6, 9, 10], [6, 9], []]) (H := [⟨0, [], .hole⟩, ⟨0, [], .hole⟩]) zaf (by kernel_rfl) (by decide +kernel) (by kernel_rfl) ?_
    | refine zaa (U := [[], [], [], [], [], [], [], [], [], [], [1, 4, 6, 9], [1, 4, 6, 9, 10], [6, 9], []]) (H := [⟨0, [], .hole⟩, ⟨0, [], .hole⟩]) zaf (by kernel_rfl) (by decide +kernel) (by kernel_rfl) ?_
    | refine zaa (U := [[], [], [], [], [], [], [], [], [], []]) (H := []) zaf (by kernel_rfl) (by decide +kernel) (by kernel_rfl) ?_)
        refine qau (GI2 h ⟨29, [eS s], .own⟩ ⟨29, [eS t], .own⟩ (fun i => i ≤ 4 ∧ ∀ j x y, j < i → s.Last[j]? = some x → t.Last[j]? = some y → smR x y = true) (fun i a => [(0, eS s), (1, eS t), (2, .ref h.length [0] 29), (3, .ref (h.length + 1) [0] 29), (4, .bool false), (5, a 5), (6, a 6), (7, a 7), (8, a 8), (9, a 9), (10, a 10), (11, .int .i64 i), (48, a 48), (53, a 53), (85, a 85), (90, a 90), (129, a 129), (131, a 131), (143, a 143)])) 4 ?_ ?_
        · exact ⟨⟨Nat.zero_le _, fun j x y hj => absurd hj (Nat.not_lt_zero _)⟩, hT, a0, a1, rfl⟩
        clear hT a0 a1 hk2 hkg hlt hi a hTl
        clear H i
        rintro i env H ⟨⟨hi, hinv⟩, hT, a0, a1, henv⟩
        refine ⟨hi, ?_⟩
        rw [henv]
        generalize lk env = a
        clear henv env
        have hk2 := zac a0
        have hkg := zac a1
        have l4 := hs.four
        have m4 := ht.four
        by_cases hlt : i < 4
        · have hx : s.Last[i]? = some s.Last[i] := List.getElem?_eq_getElem (by omega)
          have hy : t.Last[i]? = some t.Last[i] := List.getElem?_eq_getElem (by omega)
          generalize s.Last[i] = x at hx
          generalize t.Last[i] = y at hy
          have hi9 : i < 9223372036854775807 := by omega
          have hf := c_SameReply6 x y (hs.last.2 x (List.mem_of_getElem? hx)) (ht.last.2 y (List.mem_of_getElem? hy))
          have hc4 : decide ((i : Int) < 4) = true := by simp; omega
          have hr4 : (0 ≤ (i : Int) ∧ (i : Int) < 4) = True := by simp; omega
          have gL : qbg (eS s) [5, i] = some (eR x) := by
            simp only [eS, qbg, List.getElem?_cons_succ, List.getElem?_cons_zero, eL, List.getElem?_map, hx, Option.map_some]
          have gM : qbg (eS t) [5, i] = some (eR y) := by
            simp only [eS, qbg, List.getElem?_cons_succ, List.getElem?_cons_zero, eL, List.getElem?_map, hy, Option.map_some]
          cases hb : sm6 x y with
          | true =>
            rw [hb] at hf
            repeat' (first
    | simp (implicitDefEqProofs := false) only [push_cast, reduceIte, reduceCtorEq, Nat.reduceAdd, Nat.reduceSub, Nat.reduceEqDiff, Nat.reduceLT, Nat.reduceLeDiff, Nat.reduceBEq, Nat.reduceMul, Int.reduceLT, Int.reduceLE, Int.reduceEq, Int.reduceToNat, Int.reduceMul, Int.reduceNeg, Go.Proofs.Try.f22, a0, a1, hk2, hkg, gL, gM, hc4, hr4, qbz, Int.toNat_natCast, eR_ty, eR_pl, eR_wk, eR_wk6, qae hi9, yad, zae, qac, zad, yab, qad, sst, qab, yaa, qaa, yaq, qdr, List.replicate_succ, List.drop_zero, zaj hk2, yag hk2, za4 hk2, yaj hk2, zaj hkg, yag hkg, za4 hkg, yaj hkg]
    | refine Sp2.f ?_ ?_
    | refine Spl.f ?_ ?_ <;> intro hb
    | refine yac rfl (fun b hb => ?_)
    | refine zaa (U := [[], [], [], [], [], [], [], [], [], [], [1, 4, 6, 9], [1, 4, 6, 9, 10], [6, 9], []]) (H := [⟨0, [], .hole⟩, ⟨0, [], .hole⟩]) zaf (by kernel_rfl) (by decide +kernel) (by kernel_rfl) ?_
    | refine zaa (U := [[], [], [], [], [], [], [], [], [], [], [1, 4, 6, 9], [1, 4, 6, 9, 10], [6, 9], []]) (H := [⟨0, [], .hole⟩, ⟨0, [], .hole⟩]) zaf (by kernel_rfl) (by decide +kernel) (by kernel_rfl) ?_
    | refine zaa (U := [[], [], [], [], [], [], [], [], [], []]) (H := []) zaf (by kernel_rfl) (by decide +kernel) (by kernel_rfl) ?_
    | refine zaq hf ?_)
            exact ⟨⟨hlt, qbf hx hy hb hinv⟩, hT, a0, a1, rfl⟩
          | false =>
            rw [hb] at hf
            repeat' (first
    | simp (implicitDefEqProofs := false) only [push_cast, reduceIte, reduceCtorEq, Nat.reduceAdd, Nat.reduceSub, Nat.reduceEqDiff, Nat.reduceLT, Nat.reduceLeDiff, Nat.reduceBEq, Nat.reduceMul, Int.reduceLT, Int.reduceLE, Int.reduceEq, Int.reduceToNat, Int.reduceMul, Int.reduceNeg, Go.Proofs.Try.f22, hT, a0, a1, hk2, hkg, gL, gM, hc4, hr4, qbz, Int.toNat_natCast, eR_ty, eR_pl, eR_wk, eR_wk6, qae hi9, yad, zae, qac, zad, yab, qad, sst, qab, yaa, qaa, yaq, qdr, List.replicate_succ, List.drop_zero, zaj hk2, yag hk2, za4 hk2, yaj hk2, zaj hkg, yag hkg, za4 hkg, yaj hkg]
    | refine Sp2.f ?_ ?_
    | refine Spl.f ?_ ?_ <;> intro hb
    | refine yac rfl (fun b hb => ?_)
    | refine zaa (U := [[], [], [], [], [], [], [], [], [], [], [1, 4, 6, 9], [1, 4, 6, 9, 10], [6, 9], []]) (H := [⟨0, [], .hole⟩, ⟨0, [], .hole⟩]) zaf (by kernel_rfl) (by decide +kernel) (by kernel_rfl) ?_
    | refine zaa (U := [[], [], [], [], [], [], [], [], [], [], [1, 4, 6, 9], [1, 4, 6, 9, 10], [6, 9], []]) (H := [⟨0, [], .hole⟩, ⟨0, [], .hole⟩]) zaf (by kernel_rfl) (by decide +kernel) (by kernel_rfl) ?_
    | refine zaa (U := [[], [], [], [], [], [], [], [], [], []]) (H := []) zaf (by kernel_rfl) (by decide +kernel) (by kernel_rfl) ?_
    | refine zaq hf ?_)
            rw [sameS_last (zbo hx hy hb)]
        · have hL : qb0 smR s.Last t.Last = true := zbx (by omega) fun j x y hj => hinv j x y (by omega)
          have hc4 : decide ((i : Int) < 4) = false := by simp; omega
          repeat' (first
    | simp (implicitDefEqProofs := false) only [push_cast, reduceIte, reduceCtorEq, Nat.reduceAdd, Nat.reduceSub, Nat.reduceEqDiff, Nat.reduceLT, Nat.reduceLeDiff, Nat.reduceBEq, Nat.reduceMul, Int.reduceLT, Int.reduceLE, Int.reduceEq, Int.reduceToNat, Int.reduceMul, Int.reduceNeg, Go.Proofs.Try.f22, hT, a0, a1, hk2, hkg, hc4, yad, zae, qac, zad, yab, qad, sst, qab, yaa, qaa, yaq, qdr, List.replicate_succ, List.drop_zero, zaj hk2, yag hk2, za4 hk2, yaj hk2, zaj hkg, yag hkg, za4 hkg, yaj hkg]
    | refine Sp2.f ?_ ?_
    | refine Spl.f ?_ ?_ <;> intro hb
    | refine yac rfl (fun b hb => ?_)
    | refine zaa (U := [[], [], [], [], [], [], [], [], [], [], [1, 4, 6, 9], [1, 4, 6, 9, 10], [6, 9], []]) (H := [⟨0, [], .hole⟩, ⟨0, [], .hole⟩]) zaf (by kernel_rfl) (by decide +kernel) (by kernel_rfl) ?_
    | refine zaa (U := [[], [], [], [], [], [], [], [], [], [], [1, 4, 6, 9], [1, 4, 6, 9, 10], [6, 9], []]) (H := [⟨0, [], .hole⟩, ⟨0, [], .hole⟩]) zaf (by kernel_rfl) (by decide +kernel) (by kernel_rfl) ?_
    | refine zaa (U := [[], [], [], [], [], [], [], [], [], []]) (H := []) zaf (by kernel_rfl) (by decide +kernel) (by kernel_rfl) ?_)
          simp only [yds, hI, hW, hL, h1, h2, h3, beq_self_eq_true, Bool.and_self]
  · have e : yds s t = false := by
      cases hc : yds s t with
      | false => rfl
      | true =>
        exfalso
        simp only [yds, Bool.and_eq_true, beq_iff_eq] at hc
        exact hh ⟨hc.1, hc.2.1, hc.2.2.1, all2_len hc.2.2.2.1, all2_len hc.2.2.2.2.1⟩
    rw [e]
    repeat' (first
    | simp (implicitDefEqProofs := false) only [push_cast, reduceIte, reduceCtorEq, Nat.reduceAdd, Nat.reduceSub, Nat.reduceEqDiff, Nat.reduceLT, Nat.reduceLeDiff, Nat.reduceBEq, Nat.reduceMul, Int.reduceLT, Int.reduceLE, Int.reduceEq, Int.reduceToNat, Int.reduceMul, Int.reduceNeg, Go.Proofs.Try.f22, gN, gI, gW, gR, gX, qcp, zcq, ycp, List.length_map, yad, zae, qac, zad, yab, qad, sst, qab, yaa, qaa, yaq, qdr, List.replicate_succ, List.drop_zero]
    | refine Sp2.f ?_ ?_
    | refine Spl.f ?_ ?_ <;> intro hb
    | refine yac rfl (fun b hb => ?_)
    | refine zaa (U := [[], [], [], [], [], [], [], [], [], [], [1, 4, 6, 9], [1, 4, 6, 9, 10], [6, 9], []]) (H := [⟨0, [], .hole⟩, ⟨0, [], .hole⟩]) zaf (by kernel_rfl) (by decide +kernel) (by kernel_rfl) ?_
    | refine zaa (U := [[], [], [], [], [], [], [], [], [], [], [1, 4, 6, 9], [1, 4, 6, 9, 10], [6, 9], []]) (H := [⟨0, [], .hole⟩, ⟨0, [], .hole⟩]) zaf (by kernel_rfl) (by decide +kernel) (by kernel_rfl) ?_
    | refine zaa (U := [[], [], [], [], [], [], [], [], [], []]) (H := []) zaf (by kernel_rfl) (by decide +kernel) (by kernel_rfl) ?_)
    all_goals first
      | rfl
      | (exfalso; apply hh; refine ⟨?_, ?_, ?_, ?_, ?_⟩ <;> grind)
end Go.Abs
