/- R5: a part of the proofs about the tuple space (layer 8). -/
import Derived.Test.YtelohjfiojpeeaaR4
set_option linter.all false
set_option maxRecDepth 100000
set_option maxHeartbeats 0
namespace Go.Abs
open Go
open Go.Proofs.Try (prog)
/-! ### the document's answer: the same space, a new one -/
theorem c_New6 (r w : Int) : Fn prog 30 [.int .i64 r, .int .i64 w] (eS (newS r w)) := by
  refine fn_wk (r0 := spcN r w 4) 33 ?_ (by simp [spcN, ty_agg]) ?_
  · refine run_30 rfl fun h => ?_
    repeat' (first
    | simp (implicitDefEqProofs := false) only [push_cast, reduceIte, reduceCtorEq, Nat.reduceAdd, Nat.reduceSub, Nat.reduceEqDiff, Nat.reduceLT, Nat.reduceLeDiff, Nat.reduceBEq, Nat.reduceMul, Int.reduceLT, Int.reduceLE, Int.reduceEq, Int.reduceToNat, Int.reduceMul, Int.reduceNeg, Go.Proofs.Try.f30]
    | refine Sp2.f ?_ ?_
    | refine Spl.f ?_ ?_ <;> intro hb
    | refine rq_mk rfl (fun b hb => ?_))
    refine rl_count (fun i a => [(0, .int .i64 r), (1, .int .i64 w), (4, .ref h.length [0] 33), (5, .ref (h.length + 1) [0] 33), (6, .int .i64 i), (13, a 13)]) (fun i _ => h ++ [⟨33, [zeroAV prog 33], .own⟩, ⟨33, [spcN r w i], .own⟩]) (fun i => i ≤ 4) 4 (li_mk rfl ⟨[], ?_⟩ (by omega)) ?_
    · simp only [za_33]; rfl
    rintro i a g' hi
    refine ⟨hi, ?_⟩
    have h5 : i = 0 ∨ i = 1 ∨ i = 2 ∨ i = 3 ∨ i = 4 := by omega
    rcases h5 with rfl | rfl | rfl | rfl | rfl
    all_goals (repeat' (first
    | simp (implicitDefEqProofs := false) only [push_cast, reduceIte, reduceCtorEq, Nat.reduceAdd, Nat.reduceSub, Nat.reduceEqDiff, Nat.reduceLT, Nat.reduceLeDiff, Nat.reduceBEq, Nat.reduceMul, Int.reduceLT, Int.reduceLE, Int.reduceEq, Int.reduceToNat, Int.reduceMul, Int.reduceNeg, Go.Proofs.Try.f30, spcN, lst, rp0, (show ((0 : Nat) : Int) = 0 from rfl), (show ((1 : Nat) : Int) = 1 from rfl), (show ((2 : Nat) : Int) = 2 from rfl), (show ((3 : Nat) : Int) = 3 from rfl), (show ((4 : Nat) : Int) = 4 from rfl)]
    | refine Sp2.f ?_ ?_
    | refine Spl.f ?_ ?_ <;> intro hb
    | refine rq_mk rfl (fun b hb => ?_)
    | refine li_mk ?_ ⟨[], rfl⟩ ?_))
    all_goals first
      | rfl
      | omega
      | exact res_mk (by simp [dat_agg, datL_cons, datL_nil, dat_int, dat_bool, dat]) rfl
  · simp only [spcN, lst, rp0, eS, newS, eIs, eWs, eL, eR, eFs, List.map_nil, List.map_cons, wk_aggE, wkAgg_struct, wkAgg_arr, wk_int, wk_bool, wk_nils, wkNil_slice, sh_33, fl_33, sh_31, sh_30, fl_30, sh_27, sh_28, sh_23, List.zipWith_cons_cons, List.zipWith_nil_left, if_true, Nat.reduceLT, reduceIte, if_false]
theorem sameS_items {a b : Spc} (h : all2 smI a.Items b.Items = false) : sameS a b = false := by
  simp only [sameS, h, Bool.false_and, Bool.and_false]
theorem sameS_wtrs {a b : Spc} (h : all2 smW a.Waiters b.Waiters = false) : sameS a b = false := by
  simp only [sameS, h, Bool.false_and, Bool.and_false]
theorem sameS_last {a b : Spc} (h : all2 smR a.Last b.Last = false) : sameS a b = false := by
  simp only [sameS, h, Bool.and_false]
theorem c_SameSpace6 (s t : Spc) (hs : s.Small) (ht : t.Small) : Fn prog 27 [eS s, eS t] (.bool (sameS s t)) := by
  refine run_27 rfl fun h => ?_
  have gN : ∀ s : Spc, getP (eS s) [0] = some (.int .i64 s.Now) := fun _ => rfl
  have gI : ∀ s : Spc, getP (eS s) [1] = some (.list 74 (s.Items.map eI)) := fun _ => rfl
  have gW : ∀ s : Spc, getP (eS s) [2] = some (.list 50 (s.Waiters.map eW)) := fun _ => rfl
  have gR : ∀ s : Spc, getP (eS s) [3] = some (.int .i64 s.Read) := fun _ => rfl
  have gX : ∀ s : Spc, getP (eS s) [4] = some (.int .i64 s.Write) := fun _ => rfl
  by_cases hh : s.Now = t.Now ∧ s.Read = t.Read ∧ s.Write = t.Write ∧ s.Items.length = t.Items.length ∧ s.Waiters.length = t.Waiters.length
  · obtain ⟨h1, h2, h3, h4, h5⟩ := hh
    have f1 : (s.Now != t.Now) = false := by simp [h1]
    have f2 : (s.Read != t.Read) = false := by simp [h2]
    have f3 : (s.Write != t.Write) = false := by simp [h3]
    repeat' (first
    | simp (implicitDefEqProofs := false) only [push_cast, reduceIte, reduceCtorEq, Nat.reduceAdd, Nat.reduceSub, Nat.reduceEqDiff, Nat.reduceLT, Nat.reduceLeDiff, Nat.reduceBEq, Nat.reduceMul, Int.reduceLT, Int.reduceLE, Int.reduceEq, Int.reduceToNat, Int.reduceMul, Int.reduceNeg, Go.Proofs.Try.f27, gN, gI, gW, gR, gX, eS_ty, eS_pl, eS_wk, List.length_map, f1, f2, f3, eq_len h4, eq_len h5, ap_lo, st_lo, st_ne, st_eq, len_st, st_st, sst, at_set, at_set0, at_set2, at_set20, sst2, List.replicate_succ, List.drop_zero]
    | refine Sp2.f ?_ ?_
    | refine Spl.f ?_ ?_ <;> intro hb
    | refine rq_mk rfl (fun b hb => ?_)
    | refine r_draw (U := [[], [], [], [], [], [], [], [], [], [], [1, 4, 6, 9], [1, 4, 6, 9, 10], [6, 9], []]) (H := [⟨0, [], .hole⟩, ⟨0, [], .hole⟩]) hmix (by kernel_rfl) (by decide +kernel) (by kernel_rfl) ?_
    | refine r_draw (U := [[], [], [], [], [], [], [], [], [], [], [1, 4, 6, 9], [1, 4, 6, 9, 10], [6, 9], []]) (H := [⟨0, [], .hole⟩, ⟨0, [], .hole⟩]) hmix (by kernel_rfl) (by decide +kernel) (by kernel_rfl) ?_
    | refine r_draw (U := [[], [], [], [], [], [], [], [], [], []]) (H := []) hmix (by kernel_rfl) (by decide +kernel) (by kernel_rfl) ?_)
    refine rl_gen (GI2 h ⟨33, [eS s], .own⟩ ⟨33, [eS t], .own⟩ (fun i => i ≤ s.Items.length ∧ ∀ j x y, j < i → s.Items[j]? = some x → t.Items[j]? = some y → smI x y = true) (fun i a => [(0, eS s), (1, eS t), (2, .ref h.length [0] 33), (3, .ref (h.length + 1) [0] 33), (4, .bool false), (5, .int .i64 i), (6, a 6), (7, a 7), (8, a 8), (9, a 9), (10, a 10), (11, a 11), (48, a 48), (53, a 53), (85, a 85), (90, a 90), (129, a 129), (131, a 131), (143, a 143)])) s.Items.length ?_ ?_
    · exact ⟨⟨Nat.zero_le _, fun j x y hj => absurd hj (Nat.not_lt_zero _)⟩, by simp, get_at0 h _, get_at h _ 1, rfl⟩
    rintro i env H ⟨⟨hi, hinv⟩, hT, a0, a1, henv⟩
    refine ⟨hi, ?_⟩
    rw [henv]
    generalize lk env = a
    clear henv env
    have hk2 := lt_some a0
    have hkg := lt_some a1
    by_cases hlt : i < s.Items.length
    · have hlt' : i < t.Items.length := by omega
      have hx : s.Items[i]? = some s.Items[i] := List.getElem?_eq_getElem hlt
      have hy : t.Items[i]? = some t.Items[i] := List.getElem?_eq_getElem hlt'
      generalize s.Items[i] = x at hx
      generalize t.Items[i] = y at hy
      have hi9 : i < 9223372036854775807 := by have := hs.items.1; omega
      have hf := c_SameFields x.T y.T (hs.items.2 x (List.mem_of_getElem? hx)) (ht.items.2 y (List.mem_of_getElem? hy))
      have hTl : ∀ l : List Entry, (H ++ l).take h.length = h := fun l => by rw [List.take_append_of_le_length (by omega)]; exact hT
      repeat' (first
    | simp (implicitDefEqProofs := false) only [push_cast, reduceIte, reduceCtorEq, Nat.reduceAdd, Nat.reduceSub, Nat.reduceEqDiff, Nat.reduceLT, Nat.reduceLeDiff, Nat.reduceBEq, Nat.reduceMul, Int.reduceLT, Int.reduceLE, Int.reduceEq, Int.reduceToNat, Int.reduceMul, Int.reduceNeg, Go.Proofs.Try.f27, hTl, a0, a1, hk2, hkg, gN, gI, gW, gR, gX, eI, eS_ty, eS_pl, eS_wk, List.length_map, cast_lt hlt, in_row hlt, in_row hlt', getD_map eI hx, getD_map eI hy, Int.toNat_natCast, eFs_ty, eFs_pl, eFs_wk, wrap_succ hi9, ap_lo, st_lo, st_ne, st_eq, len_st, st_st, sst, at_set, at_set0, at_set2, at_set20, sst2, List.replicate_succ, List.drop_zero, ne_hi hk2, ne_hi' hk2, ne_h hk2, ne_h' hk2, ne_hi hkg, ne_hi' hkg, ne_h hkg, ne_h' hkg]
    | refine Sp2.f ?_ ?_
    | refine Spl.f ?_ ?_ <;> intro hb
    | refine rq_mk rfl (fun b hb => ?_)
    | refine r_draw (U := [[], [], [], [], [], [], [], [], [], [], [1, 4, 6, 9], [1, 4, 6, 9, 10], [6, 9], []]) (H := [⟨0, [], .hole⟩, ⟨0, [], .hole⟩]) hmix (by kernel_rfl) (by decide +kernel) (by kernel_rfl) ?_
    | refine r_draw (U := [[], [], [], [], [], [], [], [], [], [], [1, 4, 6, 9], [1, 4, 6, 9, 10], [6, 9], []]) (H := [⟨0, [], .hole⟩, ⟨0, [], .hole⟩]) hmix (by kernel_rfl) (by decide +kernel) (by kernel_rfl) ?_
    | refine r_draw (U := [[], [], [], [], [], [], [], [], [], []]) (H := []) hmix (by kernel_rfl) (by decide +kernel) (by kernel_rfl) ?_
    | refine k_fn hf ?_)
      all_goals first
        | (rw [sameS_items (all2_false hx hy (by simp only [smI, sameT]; grind))]; done)
        | exact .mk ⟨hlt, none_before2 hx hy (by simp only [smI, sameT]; grind) hinv⟩ hT a0 a1 rfl
    · have hI : all2 smI s.Items t.Items = true := all2_true h4 fun j x y hj => hinv j x y (by omega)
      clear hinv
      repeat' (first
    | simp (implicitDefEqProofs := false) only [push_cast, reduceIte, reduceCtorEq, Nat.reduceAdd, Nat.reduceSub, Nat.reduceEqDiff, Nat.reduceLT, Nat.reduceLeDiff, Nat.reduceBEq, Nat.reduceMul, Int.reduceLT, Int.reduceLE, Int.reduceEq, Int.reduceToNat, Int.reduceMul, Int.reduceNeg, Go.Proofs.Try.f27, a0, a1, hk2, hkg, gN, gI, gW, gR, gX, List.length_map, cast_ge hlt, ap_lo, st_lo, st_ne, st_eq, len_st, st_st, sst, at_set, at_set0, at_set2, at_set20, sst2, List.replicate_succ, List.drop_zero, ne_hi hk2, ne_hi' hk2, ne_h hk2, ne_h' hk2, ne_hi hkg, ne_hi' hkg, ne_h hkg, ne_h' hkg]
    | refine Sp2.f ?_ ?_
    | refine Spl.f ?_ ?_ <;> intro hb
    | refine rq_mk rfl (fun b hb => ?_)
    | refine r_draw (U := [[], [], [], [], [], [], [], [], [], [], [1, 4, 6, 9], [1, 4, 6, 9, 10], [6, 9], []]) (H := [⟨0, [], .hole⟩, ⟨0, [], .hole⟩]) hmix (by kernel_rfl) (by decide +kernel) (by kernel_rfl) ?_
    | refine r_draw (U := [[], [], [], [], [], [], [], [], [], [], [1, 4, 6, 9], [1, 4, 6, 9, 10], [6, 9], []]) (H := [⟨0, [], .hole⟩, ⟨0, [], .hole⟩]) hmix (by kernel_rfl) (by decide +kernel) (by kernel_rfl) ?_
    | refine r_draw (U := [[], [], [], [], [], [], [], [], [], []]) (H := []) hmix (by kernel_rfl) (by decide +kernel) (by kernel_rfl) ?_)
      refine rl_gen (GI2 h ⟨33, [eS s], .own⟩ ⟨33, [eS t], .own⟩ (fun i => i ≤ s.Waiters.length ∧ ∀ j x y, j < i → s.Waiters[j]? = some x → t.Waiters[j]? = some y → smW x y = true) (fun i a => [(0, eS s), (1, eS t), (2, .ref h.length [0] 33), (3, .ref (h.length + 1) [0] 33), (4, .bool false), (5, a 5), (6, a 6), (7, a 7), (8, .int .i64 i), (9, a 9), (10, a 10), (11, a 11), (48, a 48), (53, a 53), (85, a 85), (90, a 90), (129, a 129), (131, a 131), (143, a 143)])) s.Waiters.length ?_ ?_
      · exact ⟨⟨Nat.zero_le _, fun j x y hj => absurd hj (Nat.not_lt_zero _)⟩, hT, a0, a1, rfl⟩
      clear hT a0 a1 hk2 hkg hlt hi a
      clear H i
      rintro i env H ⟨⟨hi, hinv⟩, hT, a0, a1, henv⟩
      refine ⟨hi, ?_⟩
      rw [henv]
      generalize lk env = a
      clear henv env
      have hk2 := lt_some a0
      have hkg := lt_some a1
      have hTl : ∀ l : List Entry, (H ++ l).take h.length = h := fun l => by rw [List.take_append_of_le_length (by omega)]; exact hT
      by_cases hlt : i < s.Waiters.length
      · have hlt' : i < t.Waiters.length := by omega
        have hx : s.Waiters[i]? = some s.Waiters[i] := List.getElem?_eq_getElem hlt
        have hy : t.Waiters[i]? = some t.Waiters[i] := List.getElem?_eq_getElem hlt'
        generalize s.Waiters[i] = x at hx
        generalize t.Waiters[i] = y at hy
        have hi9 : i < 9223372036854775807 := by have := hs.waiters.1; omega
        have hf := c_SameFields x.P y.P (hs.waiters.2 x (List.mem_of_getElem? hx)) (ht.waiters.2 y (List.mem_of_getElem? hy))
        repeat' (first
    | simp (implicitDefEqProofs := false) only [push_cast, reduceIte, reduceCtorEq, Nat.reduceAdd, Nat.reduceSub, Nat.reduceEqDiff, Nat.reduceLT, Nat.reduceLeDiff, Nat.reduceBEq, Nat.reduceMul, Int.reduceLT, Int.reduceLE, Int.reduceEq, Int.reduceToNat, Int.reduceMul, Int.reduceNeg, Go.Proofs.Try.f27, hTl, a0, a1, hk2, hkg, gN, gI, gW, gR, gX, eW, eS_ty, eS_pl, eS_wk, List.length_map, cast_lt hlt, in_row hlt, in_row hlt', getD_map eW hx, getD_map eW hy, Int.toNat_natCast, eFs_ty, eFs_pl, eFs_wk, wrap_succ hi9, ap_lo, st_lo, st_ne, st_eq, len_st, st_st, sst, at_set, at_set0, at_set2, at_set20, sst2, List.replicate_succ, List.drop_zero, ne_hi hk2, ne_hi' hk2, ne_h hk2, ne_h' hk2, ne_hi hkg, ne_hi' hkg, ne_h hkg, ne_h' hkg]
    | refine Sp2.f ?_ ?_
    | refine Spl.f ?_ ?_ <;> intro hb
    | refine rq_mk rfl (fun b hb => ?_)
    | refine r_draw (U := [[], [], [], [], [], [], [], [], [], [], [1, 4, 6, 9], [1, 4, 6, 9, 10], [6, 9], []]) (H := [⟨0, [], .hole⟩, ⟨0, [], .hole⟩]) hmix (by kernel_rfl) (by decide +kernel) (by kernel_rfl) ?_
    | refine r_draw (U := [[], [], [], [], [], [], [], [], [], [], [1, 4, 6, 9], [1, 4, 6, 9, 10], [6, 9], []]) (H := [⟨0, [], .hole⟩, ⟨0, [], .hole⟩]) hmix (by kernel_rfl) (by decide +kernel) (by kernel_rfl) ?_
    | refine r_draw (U := [[], [], [], [], [], [], [], [], [], []]) (H := []) hmix (by kernel_rfl) (by decide +kernel) (by kernel_rfl) ?_
    | refine k_fn hf ?_)
        all_goals first
          | (rw [sameS_wtrs (all2_false hx hy (by simp only [smW, sameT]; grind))]; done)
          | exact .mk ⟨hlt, none_before2 hx hy (by simp only [smW, sameT]; grind) hinv⟩ hT a0 a1 rfl
      · have hW : all2 smW s.Waiters t.Waiters = true := all2_true h5 fun j x y hj => hinv j x y (by omega)
        clear hinv
        repeat' (first
    | simp (implicitDefEqProofs := false) only [push_cast, reduceIte, reduceCtorEq, Nat.reduceAdd, Nat.reduceSub, Nat.reduceEqDiff, Nat.reduceLT, Nat.reduceLeDiff, Nat.reduceBEq, Nat.reduceMul, Int.reduceLT, Int.reduceLE, Int.reduceEq, Int.reduceToNat, Int.reduceMul, Int.reduceNeg, Go.Proofs.Try.f27, a0, a1, hk2, hkg, gN, gI, gW, gR, gX, List.length_map, cast_ge hlt, ap_lo, st_lo, st_ne, st_eq, len_st, st_st, sst, at_set, at_set0, at_set2, at_set20, sst2, List.replicate_succ, List.drop_zero, ne_hi hk2, ne_hi' hk2, ne_h hk2, ne_h' hk2, ne_hi hkg, ne_hi' hkg, ne_h hkg, ne_h' hkg]
    | refine Sp2.f ?_ ?_
    | refine Spl.f ?_ ?_ <;> intro hb
    | refine rq_mk rfl (fun b hb => ?_)
    | refine r_draw (U := [[], [], [], [], [], [], [], [], [], [], [1, 4, 6, 9], [1, 4, 6, 9, 10], [6, 9], []]) (H := [⟨0, [], .hole⟩, ⟨0, [], .hole⟩]) hmix (by kernel_rfl) (by decide +kernel) (by kernel_rfl) ?_
    | refine r_draw (U := [[], [], [], [], [], [], [], [], [], [], [1, 4, 6, 9], [1, 4, 6, 9, 10], [6, 9], []]) (H := [⟨0, [], .hole⟩, ⟨0, [], .hole⟩]) hmix (by kernel_rfl) (by decide +kernel) (by kernel_rfl) ?_
    | refine r_draw (U := [[], [], [], [], [], [], [], [], [], []]) (H := []) hmix (by kernel_rfl) (by decide +kernel) (by kernel_rfl) ?_)
        refine rl_gen (GI2 h ⟨33, [eS s], .own⟩ ⟨33, [eS t], .own⟩ (fun i => i ≤ 4 ∧ ∀ j x y, j < i → s.Last[j]? = some x → t.Last[j]? = some y → smR x y = true) (fun i a => [(0, eS s), (1, eS t), (2, .ref h.length [0] 33), (3, .ref (h.length + 1) [0] 33), (4, .bool false), (5, a 5), (6, a 6), (7, a 7), (8, a 8), (9, a 9), (10, a 10), (11, .int .i64 i), (48, a 48), (53, a 53), (85, a 85), (90, a 90), (129, a 129), (131, a 131), (143, a 143)])) 4 ?_ ?_
        · exact ⟨⟨Nat.zero_le _, fun j x y hj => absurd hj (Nat.not_lt_zero _)⟩, hT, a0, a1, rfl⟩
        clear hT a0 a1 hk2 hkg hlt hi a hTl
        clear H i
        rintro i env H ⟨⟨hi, hinv⟩, hT, a0, a1, henv⟩
        refine ⟨hi, ?_⟩
        rw [henv]
        generalize lk env = a
        clear henv env
        have hk2 := lt_some a0
        have hkg := lt_some a1
        have l4 := hs.four
        have m4 := ht.four
        by_cases hlt : i < 4
        · have hx : s.Last[i]? = some s.Last[i] := List.getElem?_eq_getElem (by omega)
          have hy : t.Last[i]? = some t.Last[i] := List.getElem?_eq_getElem (by omega)
          generalize s.Last[i] = x at hx
          generalize t.Last[i] = y at hy
          have hi9 : i < 9223372036854775807 := by omega
          have hf := c_SameReply6 x y (hs.last.2 x (List.mem_of_getElem? hx)) (ht.last.2 y (List.mem_of_getElem? hy))
          have hc4 : decide ((i : Int) < 4) = true := by simp; omega
          have hr4 : (0 ≤ (i : Int) ∧ (i : Int) < 4) = True := by simp; omega
          have gL : getP (eS s) [5, i] = some (eR x) := by
            simp only [eS, getP, List.getElem?_cons_succ, List.getElem?_cons_zero, eL, List.getElem?_map, hx, Option.map_some]
          have gM : getP (eS t) [5, i] = some (eR y) := by
            simp only [eS, getP, List.getElem?_cons_succ, List.getElem?_cons_zero, eL, List.getElem?_map, hy, Option.map_some]
          cases hb : sm6 x y with
          | true =>
            rw [hb] at hf
            repeat' (first
    | simp (implicitDefEqProofs := false) only [push_cast, reduceIte, reduceCtorEq, Nat.reduceAdd, Nat.reduceSub, Nat.reduceEqDiff, Nat.reduceLT, Nat.reduceLeDiff, Nat.reduceBEq, Nat.reduceMul, Int.reduceLT, Int.reduceLE, Int.reduceEq, Int.reduceToNat, Int.reduceMul, Int.reduceNeg, Go.Proofs.Try.f27, a0, a1, hk2, hkg, gL, gM, hc4, hr4, cast4, Int.toNat_natCast, eR_ty, eR_pl, eR_wk, eR_wk6, wrap_succ hi9, ap_lo, st_lo, st_ne, st_eq, len_st, st_st, sst, at_set, at_set0, at_set2, at_set20, sst2, List.replicate_succ, List.drop_zero, ne_hi hk2, ne_hi' hk2, ne_h hk2, ne_h' hk2, ne_hi hkg, ne_hi' hkg, ne_h hkg, ne_h' hkg]
    | refine Sp2.f ?_ ?_
    | refine Spl.f ?_ ?_ <;> intro hb
    | refine rq_mk rfl (fun b hb => ?_)
    | refine r_draw (U := [[], [], [], [], [], [], [], [], [], [], [1, 4, 6, 9], [1, 4, 6, 9, 10], [6, 9], []]) (H := [⟨0, [], .hole⟩, ⟨0, [], .hole⟩]) hmix (by kernel_rfl) (by decide +kernel) (by kernel_rfl) ?_
    | refine r_draw (U := [[], [], [], [], [], [], [], [], [], [], [1, 4, 6, 9], [1, 4, 6, 9, 10], [6, 9], []]) (H := [⟨0, [], .hole⟩, ⟨0, [], .hole⟩]) hmix (by kernel_rfl) (by decide +kernel) (by kernel_rfl) ?_
    | refine r_draw (U := [[], [], [], [], [], [], [], [], [], []]) (H := []) hmix (by kernel_rfl) (by decide +kernel) (by kernel_rfl) ?_
    | refine dk_pure hf ?_)
            exact ⟨⟨hlt, none_before2 hx hy hb hinv⟩, hT, a0, a1, rfl⟩
          | false =>
            rw [hb] at hf
            repeat' (first
    | simp (implicitDefEqProofs := false) only [push_cast, reduceIte, reduceCtorEq, Nat.reduceAdd, Nat.reduceSub, Nat.reduceEqDiff, Nat.reduceLT, Nat.reduceLeDiff, Nat.reduceBEq, Nat.reduceMul, Int.reduceLT, Int.reduceLE, Int.reduceEq, Int.reduceToNat, Int.reduceMul, Int.reduceNeg, Go.Proofs.Try.f27, hT, a0, a1, hk2, hkg, gL, gM, hc4, hr4, cast4, Int.toNat_natCast, eR_ty, eR_pl, eR_wk, eR_wk6, wrap_succ hi9, ap_lo, st_lo, st_ne, st_eq, len_st, st_st, sst, at_set, at_set0, at_set2, at_set20, sst2, List.replicate_succ, List.drop_zero, ne_hi hk2, ne_hi' hk2, ne_h hk2, ne_h' hk2, ne_hi hkg, ne_hi' hkg, ne_h hkg, ne_h' hkg]
    | refine Sp2.f ?_ ?_
    | refine Spl.f ?_ ?_ <;> intro hb
    | refine rq_mk rfl (fun b hb => ?_)
    | refine r_draw (U := [[], [], [], [], [], [], [], [], [], [], [1, 4, 6, 9], [1, 4, 6, 9, 10], [6, 9], []]) (H := [⟨0, [], .hole⟩, ⟨0, [], .hole⟩]) hmix (by kernel_rfl) (by decide +kernel) (by kernel_rfl) ?_
    | refine r_draw (U := [[], [], [], [], [], [], [], [], [], [], [1, 4, 6, 9], [1, 4, 6, 9, 10], [6, 9], []]) (H := [⟨0, [], .hole⟩, ⟨0, [], .hole⟩]) hmix (by kernel_rfl) (by decide +kernel) (by kernel_rfl) ?_
    | refine r_draw (U := [[], [], [], [], [], [], [], [], [], []]) (H := []) hmix (by kernel_rfl) (by decide +kernel) (by kernel_rfl) ?_
    | refine dk_pure hf ?_)
            rw [sameS_last (all2_false hx hy hb)]
        · have hL : all2 smR s.Last t.Last = true := all2_true (by omega) fun j x y hj => hinv j x y (by omega)
          have hc4 : decide ((i : Int) < 4) = false := by simp; omega
          repeat' (first
    | simp (implicitDefEqProofs := false) only [push_cast, reduceIte, reduceCtorEq, Nat.reduceAdd, Nat.reduceSub, Nat.reduceEqDiff, Nat.reduceLT, Nat.reduceLeDiff, Nat.reduceBEq, Nat.reduceMul, Int.reduceLT, Int.reduceLE, Int.reduceEq, Int.reduceToNat, Int.reduceMul, Int.reduceNeg, Go.Proofs.Try.f27, hT, a0, a1, hk2, hkg, hc4, ap_lo, st_lo, st_ne, st_eq, len_st, st_st, sst, at_set, at_set0, at_set2, at_set20, sst2, List.replicate_succ, List.drop_zero, ne_hi hk2, ne_hi' hk2, ne_h hk2, ne_h' hk2, ne_hi hkg, ne_hi' hkg, ne_h hkg, ne_h' hkg]
    | refine Sp2.f ?_ ?_
    | refine Spl.f ?_ ?_ <;> intro hb
    | refine rq_mk rfl (fun b hb => ?_)
    | refine r_draw (U := [[], [], [], [], [], [], [], [], [], [], [1, 4, 6, 9], [1, 4, 6, 9, 10], [6, 9], []]) (H := [⟨0, [], .hole⟩, ⟨0, [], .hole⟩]) hmix (by kernel_rfl) (by decide +kernel) (by kernel_rfl) ?_
    | refine r_draw (U := [[], [], [], [], [], [], [], [], [], [], [1, 4, 6, 9], [1, 4, 6, 9, 10], [6, 9], []]) (H := [⟨0, [], .hole⟩, ⟨0, [], .hole⟩]) hmix (by kernel_rfl) (by decide +kernel) (by kernel_rfl) ?_
    | refine r_draw (U := [[], [], [], [], [], [], [], [], [], []]) (H := []) hmix (by kernel_rfl) (by decide +kernel) (by kernel_rfl) ?_)
          simp only [sameS, hI, hW, hL, h1, h2, h3, beq_self_eq_true, Bool.and_self]
  · have e : sameS s t = false := by
      cases hc : sameS s t with
      | false => rfl
      | true =>
        exfalso
        simp only [sameS, Bool.and_eq_true, beq_iff_eq] at hc
        exact hh ⟨hc.1, hc.2.1, hc.2.2.1, all2_len hc.2.2.2.1, all2_len hc.2.2.2.2.1⟩
    rw [e]
    repeat' (first
    | simp (implicitDefEqProofs := false) only [push_cast, reduceIte, reduceCtorEq, Nat.reduceAdd, Nat.reduceSub, Nat.reduceEqDiff, Nat.reduceLT, Nat.reduceLeDiff, Nat.reduceBEq, Nat.reduceMul, Int.reduceLT, Int.reduceLE, Int.reduceEq, Int.reduceToNat, Int.reduceMul, Int.reduceNeg, Go.Proofs.Try.f27, gN, gI, gW, gR, gX, eS_ty, eS_pl, eS_wk, List.length_map, ap_lo, st_lo, st_ne, st_eq, len_st, st_st, sst, at_set, at_set0, at_set2, at_set20, sst2, List.replicate_succ, List.drop_zero]
    | refine Sp2.f ?_ ?_
    | refine Spl.f ?_ ?_ <;> intro hb
    | refine rq_mk rfl (fun b hb => ?_)
    | refine r_draw (U := [[], [], [], [], [], [], [], [], [], [], [1, 4, 6, 9], [1, 4, 6, 9, 10], [6, 9], []]) (H := [⟨0, [], .hole⟩, ⟨0, [], .hole⟩]) hmix (by kernel_rfl) (by decide +kernel) (by kernel_rfl) ?_
    | refine r_draw (U := [[], [], [], [], [], [], [], [], [], [], [1, 4, 6, 9], [1, 4, 6, 9, 10], [6, 9], []]) (H := [⟨0, [], .hole⟩, ⟨0, [], .hole⟩]) hmix (by kernel_rfl) (by decide +kernel) (by kernel_rfl) ?_
    | refine r_draw (U := [[], [], [], [], [], [], [], [], [], []]) (H := []) hmix (by kernel_rfl) (by decide +kernel) (by kernel_rfl) ?_)
    all_goals first
      | rfl
      | (exfalso; apply hh; refine ⟨?_, ?_, ?_, ?_, ?_⟩ <;> grind)

end Go.Abs
