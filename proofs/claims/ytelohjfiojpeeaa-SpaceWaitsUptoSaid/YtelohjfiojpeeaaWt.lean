/- Wt: a part of the proofs about the tuple space (layer 8). -/
import Derived.Test.YtelohjfiojpeeaaWa
import Derived.Test.YtelohjfiojpeeaaHp
set_option linter.all false
set_option maxRecDepth 100000
set_option maxHeartbeats 0
namespace Go.Abs
open Go
open Go.Proofs.Try (prog)
/-! ### SpaceWaits -/
def VI (o : List Bool) (n : Nat) (h : List Entry) (E : Nat → (Nat → AV) → Env) (i : Nat) (env : Env) (hh : List Entry) : Prop :=
  ∃ s st, W1 o i s ∧ i ≤ n ∧ (st = .own ∨ st = .fz) ∧ hh.take h.length = h ∧ hh[h.length]? = some ⟨33, [eS s], .own⟩ ∧ hh[h.length + 1]? = some ⟨25, [eF ⟨3, 0, ByteArray.empty⟩], st⟩ ∧ env = E i (lk env)
def VJ (o : List Bool) (n m : Nat) (h : List Entry) (E : Nat → Nat → (Nat → AV) → Env) (i : Nat) (env : Env) (hh : List Entry) : Prop :=
  ∃ s a, W2 o n a i s ∧ i ≤ m ∧ hh.take h.length = h ∧ hh[h.length]? = some ⟨33, [eS s], .own⟩ ∧ env = E a i (lk env)
def VQ (H : List Entry) (a L : Nat) (tk : Bool) (E : Nat → Nat → Bool → (Nat → AV) → Env) (q : Nat) (env : Env) (hh : List Entry) : Prop :=
  hh = H ∧ q ≤ L ∧ ∃ j b, j = a + q ∧ (q < L → b = false) ∧ (q = L → b = tk) ∧ env = E j q b (lk env)
theorem c_SpaceWaits (o : List Bool) (tuples : Int) (hl : o.length ≤ 4294967296) :
    Fn prog 7 [.list 4 (o.map .bool), .int .i64 tuples] (.bool true) := by
  refine run_7 rfl fun h => ?_
  have hmin : (if (10 : Int) < (o.length : Int) then (10 : Int) else (o.length : Int)) = ((min o.length 10 : Nat) : Int) := by split <;> omega
  have hn1 : min o.length 10 ≤ o.length := Nat.min_le_left _ _
  have hn2 : min o.length 10 ≤ 10 := Nat.min_le_right _ _
  generalize min o.length 10 = n at hmin hn1 hn2
  have hkl : h.length < h.length + 1 := Nat.lt_succ_self _
  have gI : ∀ t : Spc, getP (eS t) [1] = some (.list 74 (t.Items.map eI)) := fun t => rfl
  have gW : ∀ t : Spc, getP (eS t) [2] = some (.list 50 (t.Waiters.map eW)) := fun t => rfl
  repeat' (first
    | simp (implicitDefEqProofs := false) only [push_cast, reduceIte, reduceCtorEq, Nat.reduceAdd, Nat.reduceSub, Nat.reduceEqDiff, Nat.reduceLT, Nat.reduceLeDiff, Nat.reduceBEq, Nat.reduceMul, Int.reduceLT, Int.reduceLE, Int.reduceEq, Int.reduceToNat, Int.reduceMul, Int.reduceNeg, Go.Proofs.Try.f7, eS_ty, eS_pl, eS_wk, List.length_map, hmin, ap_lo, st_lo, st_ne, st_eq, len_st, st_st, sst, at_set, at_set0, at_set2, at_set20, sst2, List.replicate_succ, List.drop_zero]
    | refine Sp2.f ?_ ?_
    | refine Spl.f ?_ ?_ <;> intro hb
    | refine rq_mk rfl (fun b hb => ?_)
    | refine k_fn (c_New 15 15) ?_)
  refine rl_gen (VI o n h (fun i a => [(0, .list 4 (o.map .bool)), (1, .int .i64 tuples), (4, .bool false), (5, .ref h.length [0] 33), (6, .int .i64 n), (7, .win (h.length + 1) [] 25 0 1 1), (8, .int .i64 i), (9, a 9), (10, a 10), (11, a 11), (12, a 12), (13, a 13), (14, a 14), (15, a 15), (16, a 16), (17, a 17), (18, a 18), (27, a 27), (33, a 33), (63, a 63), (71, a 71), (100, a 100), (107, a 107), (160, a 160), (207, a 207)])) n ?_ ?_
  · exact ⟨newS 15 15, .own, W1.new o, Nat.zero_le _, .inl rfl, by simp, get_at0 h _, get_at h _ 1, rfl⟩
  rintro i env H ⟨s, st, ho, hi, hst, hT, a0, a1, henv⟩
  refine ⟨hi, ?_⟩
  rw [henv]
  generalize lk env = a
  clear henv env
  have hk2 := lt_some a0
  have hkg := lt_some a1
  by_cases hlt : i < n
  · have hio : i < o.length := by omega
    have hi9 : i < 9223372036854775807 := by omega
    have hx : o[i]? = some (o.getD i false) := by rw [List.getD_eq_getElem?_getD, List.getElem?_eq_getElem hio]; rfl
    have hm2 := mod2 i (by omega)
    obtain ⟨ci, hci⟩ : ∃ ci : Int, ci = ((i % 2 : Nat) : Int) := ⟨_, rfl⟩
    rw [← hci] at hm2
    have g1 : ∀ X : Entry, (H.set (h.length + 1) X)[h.length + 1]? = some X := fun X => List.getElem?_set_self hkg
    have g0 : ∀ X : Entry, (H.set (h.length + 1) X)[h.length]? = some ⟨33, [eS s], .own⟩ := fun X => by rw [List.getElem?_set_ne (by omega)]; exact a0
    cases hb : o.getD i false with
    | true =>
      rw [hb] at hx
      have q1 := ho.step (kd := 5) (by omega) (by rw [hb]; rfl)
      obtain ⟨q1, q2⟩ := q1
      have d1 := c_Do s 1 (rqW o i 5) ho.c.ms.small ⟨by simp [rqW, pW], by simp [rqW]⟩
      rw [q2] at d1
      generalize (doS s 1 (rqW o i 5)).1 = s' at d1 q1
      have hwl : s'.Waiters.length = i + 1 := by rw [q1.w]; simp
      have hrep : eR (rep (rqW o i 5) 4 []) = .agg 30 [.int .i64 ci, .int .i64 ((i : Int) + 1), .int .i64 4, eFs [], .bool false] := by rw [hci]; rfl
      repeat' (first
    | simp (implicitDefEqProofs := false) only [push_cast, reduceIte, reduceCtorEq, Nat.reduceAdd, Nat.reduceSub, Nat.reduceEqDiff, Nat.reduceLT, Nat.reduceLeDiff, Nat.reduceBEq, Nat.reduceMul, Int.reduceLT, Int.reduceLE, Int.reduceEq, Int.reduceToNat, Int.reduceMul, Int.reduceNeg, Go.Proofs.Try.f7, eS_ty, eS_pl, eS_wk, List.length_map, a0, a1, g0, g1, sst0, hk2, hkg, cast_lt hlt, in_row hio, getD_map AV.bool hx, hm2, wrap_succ hi9, Int.toNat_natCast, Nat.zero_add, ap_lo, st_lo, st_ne, st_eq, len_st, st_st, sst, at_set, at_set0, at_set2, at_set20, sst2, List.replicate_succ, List.drop_zero, ne_hi hk2, ne_hi' hk2, ne_h hk2, ne_h' hk2, ne_hi hkg, ne_hi' hkg, ne_h hkg, ne_h' hkg]
    | refine Sp2.f ?_ ?_
    | refine Spl.f ?_ ?_ <;> intro hb
    | refine rq_mk rfl (fun b hb => ?_))
      refine k_giveA wfp a1 hst (by simp) ?_ d1 ?_
      · subst hci
        simp only [List.map_cons, List.map_nil, bz_dat 4 _ (eS_dat _), bz_aggE, bz_winE, bz_intE, bz_listE, set_at0, set_at, get_at0, get_at, at_set, at_set0, g1, fzE, List.set_cons_succ, List.set_cons_zero, List.getElem?_cons_succ, List.getElem?_cons_zero, bzWin_fz, List.length_cons, List.length_nil, Nat.zero_add, Nat.reduceAdd, Nat.le_refl, if_true, List.drop_zero, List.take_succ_cons, List.take_zero]
        rfl
      repeat' (first
    | simp (implicitDefEqProofs := false) only [push_cast, reduceIte, reduceCtorEq, Nat.reduceAdd, Nat.reduceSub, Nat.reduceEqDiff, Nat.reduceLT, Nat.reduceLeDiff, Nat.reduceBEq, Nat.reduceMul, Int.reduceLT, Int.reduceLE, Int.reduceEq, Int.reduceToNat, Int.reduceMul, Int.reduceNeg, Go.Proofs.Try.f7, eS_ty, eS_pl, eS_wk, List.length_map, a0, a1, g0, g1, sst0, hk2, hkg, cast_lt hlt, in_row hio, getD_map AV.bool hx, hm2, wrap_succ hi9, Int.toNat_natCast, Nat.zero_add, ap_lo, st_lo, st_ne, st_eq, len_st, st_st, sst, at_set, at_set0, at_set2, at_set20, sst2, List.replicate_succ, List.drop_zero, ne_hi hk2, ne_hi' hk2, ne_h hk2, ne_h' hk2, ne_hi hkg, ne_hi' hkg, ne_h hkg, ne_h' hkg, fzE, eRs, hrep, hwl, gW, List.map_cons, List.map_nil, List.getD_cons_zero, List.getD_cons_succ, cast0, cast1, cast2, Int.reduceBEq, Int.reduceBNe, bn1, bn2, bn3, bn4, bt1, bt2, bt3, bt4, bne_self_eq_false]
    | refine Sp2.f ?_ ?_
    | refine Spl.f ?_ ?_ <;> intro hb
    | refine rq_mk rfl (fun b hb => ?_))
      exact ⟨s', .fz, q1, hlt, .inr rfl, tk_keep4 hT hk2 hkl, get_keep5 hk2, get_keep4 hkg hkl, rfl⟩
    | false =>
      rw [hb] at hx
      have q1 := ho.step (kd := 4) (by omega) (by rw [hb]; rfl)
      obtain ⟨q1, q2⟩ := q1
      have d1 := c_Do s 1 (rqW o i 4) ho.c.ms.small ⟨by simp [rqW, pW], by simp [rqW]⟩
      rw [q2] at d1
      generalize (doS s 1 (rqW o i 4)).1 = s' at d1 q1
      have hwl : s'.Waiters.length = i + 1 := by rw [q1.w]; simp
      have hrep : eR (rep (rqW o i 4) 4 []) = .agg 30 [.int .i64 ci, .int .i64 ((i : Int) + 1), .int .i64 4, eFs [], .bool false] := by rw [hci]; rfl
      repeat' (first
    | simp (implicitDefEqProofs := false) only [push_cast, reduceIte, reduceCtorEq, Nat.reduceAdd, Nat.reduceSub, Nat.reduceEqDiff, Nat.reduceLT, Nat.reduceLeDiff, Nat.reduceBEq, Nat.reduceMul, Int.reduceLT, Int.reduceLE, Int.reduceEq, Int.reduceToNat, Int.reduceMul, Int.reduceNeg, Go.Proofs.Try.f7, eS_ty, eS_pl, eS_wk, List.length_map, a0, a1, g0, g1, sst0, hk2, hkg, cast_lt hlt, in_row hio, getD_map AV.bool hx, hm2, wrap_succ hi9, Int.toNat_natCast, Nat.zero_add, ap_lo, st_lo, st_ne, st_eq, len_st, st_st, sst, at_set, at_set0, at_set2, at_set20, sst2, List.replicate_succ, List.drop_zero, ne_hi hk2, ne_hi' hk2, ne_h hk2, ne_h' hk2, ne_hi hkg, ne_hi' hkg, ne_h hkg, ne_h' hkg]
    | refine Sp2.f ?_ ?_
    | refine Spl.f ?_ ?_ <;> intro hb
    | refine rq_mk rfl (fun b hb => ?_))
      refine k_giveA wfp a1 hst (by simp) ?_ d1 ?_
      · subst hci
        simp only [List.map_cons, List.map_nil, bz_dat 4 _ (eS_dat _), bz_aggE, bz_winE, bz_intE, bz_listE, set_at0, set_at, get_at0, get_at, at_set, at_set0, g1, fzE, List.set_cons_succ, List.set_cons_zero, List.getElem?_cons_succ, List.getElem?_cons_zero, bzWin_fz, List.length_cons, List.length_nil, Nat.zero_add, Nat.reduceAdd, Nat.le_refl, if_true, List.drop_zero, List.take_succ_cons, List.take_zero]
        rfl
      repeat' (first
    | simp (implicitDefEqProofs := false) only [push_cast, reduceIte, reduceCtorEq, Nat.reduceAdd, Nat.reduceSub, Nat.reduceEqDiff, Nat.reduceLT, Nat.reduceLeDiff, Nat.reduceBEq, Nat.reduceMul, Int.reduceLT, Int.reduceLE, Int.reduceEq, Int.reduceToNat, Int.reduceMul, Int.reduceNeg, Go.Proofs.Try.f7, eS_ty, eS_pl, eS_wk, List.length_map, a0, a1, g0, g1, sst0, hk2, hkg, cast_lt hlt, in_row hio, getD_map AV.bool hx, hm2, wrap_succ hi9, Int.toNat_natCast, Nat.zero_add, ap_lo, st_lo, st_ne, st_eq, len_st, st_st, sst, at_set, at_set0, at_set2, at_set20, sst2, List.replicate_succ, List.drop_zero, ne_hi hk2, ne_hi' hk2, ne_h hk2, ne_h' hk2, ne_hi hkg, ne_hi' hkg, ne_h hkg, ne_h' hkg, fzE, eRs, hrep, hwl, gW, List.map_cons, List.map_nil, List.getD_cons_zero, List.getD_cons_succ, cast0, cast1, cast2, Int.reduceBEq, Int.reduceBNe, bn1, bn2, bn3, bn4, bt1, bt2, bt3, bt4, bne_self_eq_false]
    | refine Sp2.f ?_ ?_
    | refine Spl.f ?_ ?_ <;> intro hb
    | refine rq_mk rfl (fun b hb => ?_))
      exact ⟨s', .fz, q1, hlt, .inr rfl, tk_keep4 hT hk2 hkl, get_keep5 hk2, get_keep4 hkg hkl, rfl⟩
  · have e : i = n := by omega
    subst e
    obtain ⟨d, hd, hd0, hd1⟩ := mod_small tuples 11 (by omega)
    obtain ⟨m, rfl⟩ : ∃ m : Nat, d = m := ⟨d.toNat, by omega⟩
    repeat' (first
    | simp (implicitDefEqProofs := false) only [push_cast, reduceIte, reduceCtorEq, Nat.reduceAdd, Nat.reduceSub, Nat.reduceEqDiff, Nat.reduceLT, Nat.reduceLeDiff, Nat.reduceBEq, Nat.reduceMul, Int.reduceLT, Int.reduceLE, Int.reduceEq, Int.reduceToNat, Int.reduceMul, Int.reduceNeg, Go.Proofs.Try.f7, eS_ty, eS_pl, eS_wk, List.length_map, a0, hk2, cast_ge hlt, hd, Int.toNat_natCast, ap_lo, st_lo, st_ne, st_eq, len_st, st_st, sst, at_set, at_set0, at_set2, at_set20, sst2, List.replicate_succ, List.drop_zero, ne_hi hk2, ne_hi' hk2, ne_h hk2, ne_h' hk2]
    | refine Sp2.f ?_ ?_
    | refine Spl.f ?_ ?_ <;> intro hb
    | refine rq_mk rfl (fun b hb => ?_))
    refine rl_gen (VJ o i m h (fun c j a => [(0, .list 4 (o.map .bool)), (1, .int .i64 tuples), (4, .bool false), (5, .ref h.length [0] 33), (6, .int .i64 i), (7, a 7), (8, a 8), (9, a 9), (10, a 10), (11, a 11), (12, .int .i64 c), (13, .int .i64 m), (14, .int .i64 j), (15, a 15), (16, a 16), (17, a 17), (18, a 18), (27, a 27), (33, a 33), (63, a 63), (71, a 71), (100, a 100), (107, a 107), (160, a 160), (207, a 207)])) m ?_ ?_
    · exact ⟨s, 0, ho.w2, Nat.zero_le _, hT, a0, rfl⟩
    clear ho hT a0 a1 hlt hi hk2 hkg hst a
    clear s st H
    generalize i = n at *
    clear i
    rintro i env H ⟨s, a, ho, hi, hT, a0, henv⟩
    refine ⟨hi, ?_⟩
    rw [henv]
    generalize lk env = av
    clear henv env
    have hk2 := lt_some a0
    by_cases hlt : i < m
    · have hi9 : i < 9223372036854775807 := by omega
      obtain ⟨L, tk, hp, hw', hrs, hil, hwl⟩ := ho.step (by omega : i < 11)
      have d1 := c_Do s 2 (rpW i) ho.c.ms.small ⟨by simp [rpW], by simp [rpW]⟩
      rw [hrs] at d1
      have hst : ∀ q, q < L → ((List.range' a L).map fun j => late (wO o j) (rpW i))[q]? = some (late (wO o (a + q)) (rpW i)) := fun q hq => by
        rw [List.getElem?_map, List.getElem?_range' hq]; simp
      have hrl : ((List.range' a L).map fun j => late (wO o j) (rpW i)).length = L := by simp
      generalize ((List.range' a L).map fun j => late (wO o j) (rpW i)) = tl at d1 hst hrl
      generalize (doS s 2 (rpW i)).1 = s' at d1 hw' hil hwl
      have hrep : eR (rep (rpW i) 1 []) = .agg 30 [.int .i64 2, .int .i64 ((i : Int) + 1), .int .i64 1, eFs [], .bool false] := rfl
      have fl1 : decide ((L : Int) + 1 < 1) = false := by simp; omega
      have fr0 : (0 ≤ (0 : Int) ∧ (0 : Int) < (L : Int) + 1) = True := eq_true ⟨by omega, by omega⟩
      repeat' (first
    | simp (implicitDefEqProofs := false) only [push_cast, reduceIte, reduceCtorEq, Nat.reduceAdd, Nat.reduceSub, Nat.reduceEqDiff, Nat.reduceLT, Nat.reduceLeDiff, Nat.reduceBEq, Nat.reduceMul, Int.reduceLT, Int.reduceLE, Int.reduceEq, Int.reduceToNat, Int.reduceMul, Int.reduceNeg, Go.Proofs.Try.f7, eS_ty, eS_pl, eS_wk, List.length_map, a0, hk2, cast_lt hlt, wrap_succ hi9, Int.toNat_natCast, Nat.zero_add, ap_lo, st_lo, st_ne, st_eq, len_st, st_st, sst, at_set, at_set0, at_set2, at_set20, sst2, List.replicate_succ, List.drop_zero, ne_hi hk2, ne_hi' hk2, ne_h hk2, ne_h' hk2]
    | refine Sp2.f ?_ ?_
    | refine Spl.f ?_ ?_ <;> intro hb
    | refine rq_mk rfl (fun b hb => ?_))
      refine k_give wfp (k := H.length) (e := ⟨25, [eF (nF i)], .own⟩) (get_at0 H _) rfl (by simp) ?_ d1 ?_
      · simp only [List.map_cons, List.map_nil, bz_dat 4 _ (eS_dat _), bz_aggE, bz_winE, bz_intE, bz_listE, set_at0, set_at, get_at0, get_at, at_set, at_set0, fzE, List.set_cons_succ, List.set_cons_zero, List.getElem?_cons_succ, List.getElem?_cons_zero, bzWin_fz, List.length_cons, List.length_nil, Nat.zero_add, Nat.reduceAdd, Nat.le_refl, if_true, List.drop_zero, List.take_succ_cons, List.take_zero]
        rfl
      repeat' (first
    | simp (implicitDefEqProofs := false) only [push_cast, reduceIte, reduceCtorEq, Nat.reduceAdd, Nat.reduceSub, Nat.reduceEqDiff, Nat.reduceLT, Nat.reduceLeDiff, Nat.reduceBEq, Nat.reduceMul, Int.reduceLT, Int.reduceLE, Int.reduceEq, Int.reduceToNat, Int.reduceMul, Int.reduceNeg, Go.Proofs.Try.f7, eS_ty, eS_pl, eS_wk, List.length_map, a0, hk2, cast_lt hlt, wrap_succ hi9, Int.toNat_natCast, Nat.zero_add, fzE, eRs, hrep, hrl, fl1, fr0, List.map_cons, List.map_nil, List.getD_cons_zero, List.getD_cons_succ, cast0, cast1, cast2, Int.reduceBEq, Int.reduceBNe, bn1, bn2, bn3, bn4, bt1, bt2, bt3, bt4, bne_self_eq_false, ap_lo, st_lo, st_ne, st_eq, len_st, st_st, sst, at_set, at_set0, at_set2, at_set20, sst2, List.replicate_succ, List.drop_zero, ne_hi hk2, ne_hi' hk2, ne_h hk2, ne_h' hk2]
    | refine Sp2.f ?_ ?_
    | refine Spl.f ?_ ?_ <;> intro hb
    | refine rq_mk rfl (fun b hb => ?_))
      all_goals try omega
      refine rl_gen (VQ (H ++ [⟨25, [eF (nF i)], .fz⟩, ⟨33, [eS s'], .own⟩]) a L tk (fun j q b a => [(0, .list 4 (o.map .bool)), (1, .int .i64 tuples), (4, .bool false), (5, .ref h.length [0] 33), (6, .int .i64 n), (7, a 7), (8, a 8), (9, a 9), (10, a 10), (11, a 11), (12, .int .i64 j), (13, .int .i64 m), (14, .int .i64 i), (15, .ref (H.length + 1) [0] 33), (16, eRs (rep (rpW i) 1 [] :: tl)), (17, .int .i64 ((q : Int) + 1)), (18, .bool b), (27, a 27), (33, a 33), (63, a 63), (71, a 71), (100, a 100), (107, a 107), (160, a 160), (207, a 207)])) L ?_ ?_
      · refine ⟨rfl, Nat.zero_le _, a, false, rfl, fun _ => rfl, fun h0 => ?_, ?_⟩
        · cases tk with
          | false => rfl
          | true => have := hp.yes rfl; omega
        · rfl
      rintro q env hh ⟨rfl, hq, j, b, hj, hb1, hb2, henv⟩
      refine ⟨hq, ?_⟩
      rw [henv]
      generalize lk env = av2
      clear henv env
      by_cases hqL : q < L
      · have hbf := hb1 hqL
        subst hbf
        have hle := hp.le
        have hjn : j < n := by omega
        have hjo : j < o.length := by omega
        have hox : o[j]? = some (o.getD j false) := by rw [List.getD_eq_getElem?_getD, List.getElem?_eq_getElem hjo]; rfl
        have hgo := hp.go q hqL
        have hq2 := hst q hqL
        rw [← hj] at hgo hq2
        have hm2 := mod2 j (by omega)
        obtain ⟨c2, hc2⟩ : ∃ c2 : Int, c2 = ((j % 2 : Nat) : Int) := ⟨_, rfl⟩
        rw [← hc2] at hm2
        have hlate : eR (late (wO o j) (rpW i)) = .agg 30 [.int .i64 c2, .int .i64 ((j : Int) + 1), .int .i64 2, .list 25 [.agg 25 [.int .i64 1, .int .i64 i, .str ByteArray.empty]], .bool true] := by rw [hc2]; rfl
        have tn1 : ((q : Int) + 1).toNat = q + 1 := by omega
        have hrow : (0 ≤ (q : Int) + 1 ∧ (q : Int) + 1 < (L : Int) + 1) = True := eq_true ⟨by omega, by omega⟩
        have fge : decide ((L : Int) + 1 ≤ (q : Int) + 1) = false := by simp; omega
        have wq : IntKind.wrap .i64 ((q : Int) + 1 + 1) = (q : Int) + 1 + 1 := IntWalk.i64_in _ (by omega)
        have wj : IntKind.wrap .i64 ((j : Int) + 1) = (j : Int) + 1 := IntWalk.i64_in _ (by omega)
        repeat' (first
    | simp (implicitDefEqProofs := false) only [push_cast, reduceIte, reduceCtorEq, Nat.reduceAdd, Nat.reduceSub, Nat.reduceEqDiff, Nat.reduceLT, Nat.reduceLeDiff, Nat.reduceBEq, Nat.reduceMul, Int.reduceLT, Int.reduceLE, Int.reduceEq, Int.reduceToNat, Int.reduceMul, Int.reduceNeg, Go.Proofs.Try.f7, eS_ty, eS_pl, eS_wk, List.length_map, cast_lt hjn, in_row hjo, getD_map AV.bool hox, getD_map eR hq2, hlate, hrep, hm2, tn1, hrow, fge, wq, wj, hrl, eRs, eFs, Int.toNat_natCast, Nat.zero_add, List.map_cons, List.map_nil, List.getD_cons_zero, List.getD_cons_succ, cast0, cast1, cast2, Int.reduceBEq, Int.reduceBNe, bn1, bn2, bn3, bn4, bt1, bt2, bt3, bt4, bne_self_eq_false, ap_lo, st_lo, st_ne, st_eq, len_st, st_st, sst, at_set, at_set0, at_set2, at_set20, sst2, List.replicate_succ, List.drop_zero, ne_hi hk2, ne_hi' hk2, ne_h hk2, ne_h' hk2]
    | refine Sp2.f ?_ ?_
    | refine Spl.f ?_ ?_ <;> intro hb
    | refine rq_mk rfl (fun b hb => ?_))
        all_goals try omega
        exact ⟨rfl, hqL, j + 1, o.getD j false, by omega, fun h => by rw [hgo, decide_eq_false (by omega), Bool.and_false], fun h => by rw [hgo, decide_eq_true h, Bool.and_true], rfl⟩
      · have e : q = L := by omega
        subst e
        have hbt := hb2 rfl
        subst hbt
        have hle := hp.le
        have hil2 := ho.it
        have wl1 : IntKind.wrap .i64 ((s.Items.length : Int) + 1) = (s.Items.length : Int) + 1 := IntWalk.i64_in _ (by omega)
        have wnj : IntKind.wrap .i64 ((n : Int) - (j : Int)) = (n : Int) - (j : Int) := IntWalk.i64_in _ (by omega)
        have hwl2 : (s'.Waiters.length : Int) = (n : Int) - (j : Int) := by rw [hwl]; omega
        have hne1 : ((s.Items.length : Int) != (s.Items.length : Int) + 1) = true := by simp; omega
        rw [← hj] at hw'
        cases hb : b with
        | true =>
          rw [hb] at hil
          have hil3 : s'.Items.length = s.Items.length := hil
          by_cases hjn : j < n
          · have fj := cast_lt hjn
            repeat' (first
    | simp (implicitDefEqProofs := false) only [push_cast, reduceIte, reduceCtorEq, Nat.reduceAdd, Nat.reduceSub, Nat.reduceEqDiff, Nat.reduceLT, Nat.reduceLeDiff, Nat.reduceBEq, Nat.reduceMul, Int.reduceLT, Int.reduceLE, Int.reduceEq, Int.reduceToNat, Int.reduceMul, Int.reduceNeg, Go.Proofs.Try.f7, eS_ty, eS_pl, eS_wk, List.length_map, a0, hk2, fj, hil3, hwl2, hne1, wl1, wnj, hrl, wrap_succ hi9, gI, gW, eRs, Int.toNat_natCast, Nat.zero_add, List.map_cons, List.map_nil, cast0, cast1, cast2, Int.reduceBEq, Int.reduceBNe, bn1, bn2, bn3, bn4, bt1, bt2, bt3, bt4, bne_self_eq_false, ap_lo, st_lo, st_ne, st_eq, len_st, st_st, sst, at_set, at_set0, at_set2, at_set20, sst2, List.replicate_succ, List.drop_zero, ne_hi hk2, ne_hi' hk2, ne_h hk2, ne_h' hk2]
    | refine Sp2.f ?_ ?_
    | refine Spl.f ?_ ?_ <;> intro hb
    | refine rq_mk rfl (fun b hb => ?_))
            exact ⟨s', j, hw', hlt, tk_keep hT hk2, get_keep hk2, rfl⟩
          · have fj := cast_ge hjn
            repeat' (first
    | simp (implicitDefEqProofs := false) only [push_cast, reduceIte, reduceCtorEq, Nat.reduceAdd, Nat.reduceSub, Nat.reduceEqDiff, Nat.reduceLT, Nat.reduceLeDiff, Nat.reduceBEq, Nat.reduceMul, Int.reduceLT, Int.reduceLE, Int.reduceEq, Int.reduceToNat, Int.reduceMul, Int.reduceNeg, Go.Proofs.Try.f7, eS_ty, eS_pl, eS_wk, List.length_map, a0, hk2, fj, hil3, hwl2, hne1, wl1, wnj, hrl, wrap_succ hi9, gI, gW, eRs, Int.toNat_natCast, Nat.zero_add, List.map_cons, List.map_nil, cast0, cast1, cast2, Int.reduceBEq, Int.reduceBNe, bn1, bn2, bn3, bn4, bt1, bt2, bt3, bt4, bne_self_eq_false, ap_lo, st_lo, st_ne, st_eq, len_st, st_st, sst, at_set, at_set0, at_set2, at_set20, sst2, List.replicate_succ, List.drop_zero, ne_hi hk2, ne_hi' hk2, ne_h hk2, ne_h' hk2]
    | refine Sp2.f ?_ ?_
    | refine Spl.f ?_ ?_ <;> intro hb
    | refine rq_mk rfl (fun b hb => ?_))
            exact ⟨s', j, hw', hlt, tk_keep hT hk2, get_keep hk2, rfl⟩
        | false =>
          rw [hb] at hil
          have hil3 : s'.Items.length = s.Items.length + 1 := hil
          have hjn : ¬ j < n := by have := hp.no hb; omega
          have fj := cast_ge hjn
          repeat' (first
    | simp (implicitDefEqProofs := false) only [push_cast, reduceIte, reduceCtorEq, Nat.reduceAdd, Nat.reduceSub, Nat.reduceEqDiff, Nat.reduceLT, Nat.reduceLeDiff, Nat.reduceBEq, Nat.reduceMul, Int.reduceLT, Int.reduceLE, Int.reduceEq, Int.reduceToNat, Int.reduceMul, Int.reduceNeg, Go.Proofs.Try.f7, eS_ty, eS_pl, eS_wk, List.length_map, a0, hk2, fj, hil3, hwl2, hne1, wl1, wnj, hrl, wrap_succ hi9, gI, gW, eRs, Int.toNat_natCast, Nat.zero_add, List.map_cons, List.map_nil, cast0, cast1, cast2, Int.reduceBEq, Int.reduceBNe, bn1, bn2, bn3, bn4, bt1, bt2, bt3, bt4, bne_self_eq_false, ap_lo, st_lo, st_ne, st_eq, len_st, st_st, sst, at_set, at_set0, at_set2, at_set20, sst2, List.replicate_succ, List.drop_zero, ne_hi hk2, ne_hi' hk2, ne_h hk2, ne_h' hk2]
    | refine Sp2.f ?_ ?_
    | refine Spl.f ?_ ?_ <;> intro hb
    | refine rq_mk rfl (fun b hb => ?_))
          exact ⟨s', j, hw', hlt, tk_keep hT hk2, get_keep hk2, rfl⟩
    · have hm := c_sMay s ho.c.ms.small
      rw [ms_may ho.c.ms] at hm
      repeat' (first
    | simp (implicitDefEqProofs := false) only [push_cast, reduceIte, reduceCtorEq, Nat.reduceAdd, Nat.reduceSub, Nat.reduceEqDiff, Nat.reduceLT, Nat.reduceLeDiff, Nat.reduceBEq, Nat.reduceMul, Int.reduceLT, Int.reduceLE, Int.reduceEq, Int.reduceToNat, Int.reduceMul, Int.reduceNeg, Go.Proofs.Try.f7, eS_ty, eS_pl, eS_wk, List.length_map, a0, hk2, cast_ge hlt, hT, ap_lo, st_lo, st_ne, st_eq, len_st, st_st, sst, at_set, at_set0, at_set2, at_set20, sst2, List.replicate_succ, List.drop_zero, ne_hi hk2, ne_hi' hk2, ne_h hk2, ne_h' hk2]
    | refine Sp2.f ?_ ?_
    | refine Spl.f ?_ ?_ <;> intro hb
    | refine rq_mk rfl (fun b hb => ?_)
    | refine k_fn c_told ?_
    | refine k_fn hm ?_)

end Go.Abs
