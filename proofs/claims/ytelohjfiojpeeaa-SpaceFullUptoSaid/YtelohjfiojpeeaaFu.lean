/- Fu: a part of the proofs about the tuple space (layer 8). -/
import Derived.Test.YtelohjfiojpeeaaFa
import Derived.Test.YtelohjfiojpeeaaR3
set_option linter.all false
set_option maxRecDepth 100000
set_option maxHeartbeats 0
namespace Go.Abs
open Go
open Go.Proofs.Try (prog)
/-! ### SpaceFull -/
def FI (one : Bool) (n : Nat) (h : List Entry) (E : Nat → (Nat → AV) → Env) (i : Nat) (env : Env) (hh : List Entry) : Prop :=
  ∃ s, F1 one i s ∧ i ≤ n ∧ hh.take h.length = h ∧ hh[h.length]? = some ⟨33, [eS s], .own⟩ ∧ env = E i (lk env)
def FJ (n : Nat) (h : List Entry) (E : Nat → (Nat → AV) → Env) (i : Nat) (env : Env) (hh : List Entry) : Prop :=
  ∃ s, F2 i s ∧ i ≤ n ∧ hh.take h.length = h ∧ hh[h.length]? = some ⟨33, [eS s], .own⟩ ∧ env = E i (lk env)
theorem c_SpaceFull (n : Int) (one : Bool) (wait : Int) : Fn prog 9 [.int .i64 n, .bool one, .int .i64 wait] (.bool true) := by
  refine run_9 rfl fun h => ?_
  obtain ⟨k, hd, hd0, hd1⟩ := mod_small n 91 (by omega)
  obtain ⟨k, rfl⟩ : ∃ m : Nat, k = m := ⟨k.toNat, by omega⟩
  obtain ⟨g, hg, hg0, hg1⟩ := mod_small wait 21 (by omega)
  obtain ⟨g, rfl⟩ : ∃ m : Nat, g = m := ⟨g.toNat, by omega⟩
  repeat' (first
    | simp (implicitDefEqProofs := false) only [push_cast, reduceIte, reduceCtorEq, Nat.reduceAdd, Nat.reduceSub, Nat.reduceEqDiff, Nat.reduceLT, Nat.reduceLeDiff, Nat.reduceBEq, Nat.reduceMul, Int.reduceLT, Int.reduceLE, Int.reduceEq, Int.reduceToNat, Int.reduceMul, Int.reduceNeg, Go.Proofs.Try.f9, eS_ty, eS_pl, eS_wk, hd, ap_lo, st_lo, st_ne, st_eq, len_st, st_st, sst, at_set, at_set0, at_set2, at_set20, sst2, List.replicate_succ, List.drop_zero]
    | refine Sp2.f ?_ ?_
    | refine Spl.f ?_ ?_ <;> intro hb
    | refine rq_mk rfl (fun b hb => ?_)
    | refine k_fn (c_New 15 15) ?_)
  refine rl_gen (FI one k h (fun i a => [(0, .int .i64 n), (1, .bool one), (2, .int .i64 wait), (6, .bool false), (7, .ref h.length [0] 33), (8, .int .i64 k), (9, .int .i64 i), (10, a 10), (11, a 11), (12, a 12), (13, a 13), (14, a 14), (15, a 15), (16, a 16), (24, a 24), (29, a 29), (44, a 44), (69, a 69), (76, a 76), (103, a 103)])) k ?_ ?_
  · exact ⟨newS 15 15, F1.new one, Nat.zero_le _, by simp, get_at0 h _, rfl⟩
  rintro i env H ⟨s, ho, hi, hT, a0, henv⟩
  refine ⟨hi, ?_⟩
  rw [henv]
  generalize lk env = a
  clear henv env
  have hk2 := lt_some a0
  by_cases hlt : i < k
  · have hi9 : i < 9223372036854775807 := by omega
    have hm4 := mod4 i (by omega)
    obtain ⟨ci, hci⟩ : ∃ ci : Int, ci = ((i % 4 : Nat) : Int) := ⟨_, rfl⟩
    rw [← hci] at hm4
    obtain ⟨q1, q2⟩ := ho.step (by omega)
    have d1 := c_Do s 0 (rqF one i) ho.c.ms.small ⟨by simp [rqF], by simp [rqF]⟩
    rw [q2] at d1
    generalize (doS s 0 (rqF one i)).1 = s' at d1 q1
    cases one with
    | true =>
      by_cases hr : i < 24
      · have f24 : decide ((i : Int) < 24) = true := by simp; omega
        rw [if_pos (show i < capF true from hr)] at d1
        have hrep : eR (rep (rqF true i) 1 []) = .agg 30 [.int .i64 1, .int .i64 ((i : Int) + 1), .int .i64 1, eFs [], .bool false] := by rfl
        repeat' (first
    | simp (implicitDefEqProofs := false) only [push_cast, reduceIte, reduceCtorEq, Nat.reduceAdd, Nat.reduceSub, Nat.reduceEqDiff, Nat.reduceLT, Nat.reduceLeDiff, Nat.reduceBEq, Nat.reduceMul, Int.reduceLT, Int.reduceLE, Int.reduceEq, Int.reduceToNat, Int.reduceMul, Int.reduceNeg, Go.Proofs.Try.f9, eS_ty, eS_pl, eS_wk, List.length_map, a0, hk2, cast_lt hlt, Int.toNat_natCast, Nat.zero_add, hm4, wrap_succ hi9, ap_lo, st_lo, st_ne, st_eq, len_st, st_st, sst, at_set, at_set0, at_set2, at_set20, sst2, List.replicate_succ, List.drop_zero, ne_hi hk2, ne_hi' hk2, ne_h hk2, ne_h' hk2]
    | refine Sp2.f ?_ ?_
    | refine Spl.f ?_ ?_ <;> intro hb
    | refine rq_mk rfl (fun b hb => ?_))
        refine k_give wfp (k := H.length) (e := ⟨25, [eF (nF i)], .own⟩) (get_at0 H _) rfl (by simp) ?_ d1 ?_
        · subst hci
          simp only [List.map_cons, List.map_nil, bz_dat 4 _ (eS_dat _), bz_aggE, bz_winE, bz_intE, bz_listE, set_at0, get_at0, fzE, List.set_cons_succ, List.set_cons_zero, List.getElem?_cons_succ, List.getElem?_cons_zero, bzWin_fz, List.length_cons, List.length_nil, Nat.zero_add, Nat.reduceAdd, Nat.le_refl, if_true, List.drop_zero, List.take_succ_cons, List.take_zero]
          rfl
        repeat' (first
    | simp (implicitDefEqProofs := false) only [push_cast, reduceIte, reduceCtorEq, Nat.reduceAdd, Nat.reduceSub, Nat.reduceEqDiff, Nat.reduceLT, Nat.reduceLeDiff, Nat.reduceBEq, Nat.reduceMul, Int.reduceLT, Int.reduceLE, Int.reduceEq, Int.reduceToNat, Int.reduceMul, Int.reduceNeg, Go.Proofs.Try.f9, eS_ty, eS_pl, eS_wk, List.length_map, a0, hk2, cast_lt hlt, Int.toNat_natCast, Nat.zero_add, hm4, wrap_succ hi9, ap_lo, st_lo, st_ne, st_eq, len_st, st_st, sst, at_set, at_set0, at_set2, at_set20, sst2, List.replicate_succ, List.drop_zero, ne_hi hk2, ne_hi' hk2, ne_h hk2, ne_h' hk2, f24, fzE, eRs, hrep, List.map_cons, List.map_nil, List.getD_cons_zero, List.getD_cons_succ, cast0, cast1, cast2, Int.reduceBEq, Int.reduceBNe, bn1, bn2, bn3, bn4, bt1, bt2, bt3, bt4, bne_self_eq_false]
    | refine Sp2.f ?_ ?_
    | refine Spl.f ?_ ?_ <;> intro hb
    | refine rq_mk rfl (fun b hb => ?_))
        exact ⟨s', q1, hlt, tk_keep hT hk2, get_keep hk2, rfl⟩
      · have f24 : decide ((i : Int) < 24) = false := by simp; omega
        rw [if_neg (show ¬ i < capF true from hr)] at d1
        have hrep : eR (rep (rqF true i) 5 []) = .agg 30 [.int .i64 1, .int .i64 ((i : Int) + 1), .int .i64 5, eFs [], .bool false] := by rfl
        repeat' (first
    | simp (implicitDefEqProofs := false) only [push_cast, reduceIte, reduceCtorEq, Nat.reduceAdd, Nat.reduceSub, Nat.reduceEqDiff, Nat.reduceLT, Nat.reduceLeDiff, Nat.reduceBEq, Nat.reduceMul, Int.reduceLT, Int.reduceLE, Int.reduceEq, Int.reduceToNat, Int.reduceMul, Int.reduceNeg, Go.Proofs.Try.f9, eS_ty, eS_pl, eS_wk, List.length_map, a0, hk2, cast_lt hlt, Int.toNat_natCast, Nat.zero_add, hm4, wrap_succ hi9, ap_lo, st_lo, st_ne, st_eq, len_st, st_st, sst, at_set, at_set0, at_set2, at_set20, sst2, List.replicate_succ, List.drop_zero, ne_hi hk2, ne_hi' hk2, ne_h hk2, ne_h' hk2]
    | refine Sp2.f ?_ ?_
    | refine Spl.f ?_ ?_ <;> intro hb
    | refine rq_mk rfl (fun b hb => ?_))
        refine k_give wfp (k := H.length) (e := ⟨25, [eF (nF i)], .own⟩) (get_at0 H _) rfl (by simp) ?_ d1 ?_
        · subst hci
          simp only [List.map_cons, List.map_nil, bz_dat 4 _ (eS_dat _), bz_aggE, bz_winE, bz_intE, bz_listE, set_at0, get_at0, fzE, List.set_cons_succ, List.set_cons_zero, List.getElem?_cons_succ, List.getElem?_cons_zero, bzWin_fz, List.length_cons, List.length_nil, Nat.zero_add, Nat.reduceAdd, Nat.le_refl, if_true, List.drop_zero, List.take_succ_cons, List.take_zero]
          rfl
        repeat' (first
    | simp (implicitDefEqProofs := false) only [push_cast, reduceIte, reduceCtorEq, Nat.reduceAdd, Nat.reduceSub, Nat.reduceEqDiff, Nat.reduceLT, Nat.reduceLeDiff, Nat.reduceBEq, Nat.reduceMul, Int.reduceLT, Int.reduceLE, Int.reduceEq, Int.reduceToNat, Int.reduceMul, Int.reduceNeg, Go.Proofs.Try.f9, eS_ty, eS_pl, eS_wk, List.length_map, a0, hk2, cast_lt hlt, Int.toNat_natCast, Nat.zero_add, hm4, wrap_succ hi9, ap_lo, st_lo, st_ne, st_eq, len_st, st_st, sst, at_set, at_set0, at_set2, at_set20, sst2, List.replicate_succ, List.drop_zero, ne_hi hk2, ne_hi' hk2, ne_h hk2, ne_h' hk2, f24, fzE, eRs, hrep, List.map_cons, List.map_nil, List.getD_cons_zero, List.getD_cons_succ, cast0, cast1, cast2, Int.reduceBEq, Int.reduceBNe, bn1, bn2, bn3, bn4, bt1, bt2, bt3, bt4, bne_self_eq_false]
    | refine Sp2.f ?_ ?_
    | refine Spl.f ?_ ?_ <;> intro hb
    | refine rq_mk rfl (fun b hb => ?_))
        exact ⟨s', q1, hlt, tk_keep hT hk2, get_keep hk2, rfl⟩
    | false =>
      by_cases hr : i < 64
      · have f24 : decide ((i : Int) < 64) = true := by simp; omega
        rw [if_pos (show i < capF false from hr)] at d1
        have hrep : eR (rep (rqF false i) 1 []) = .agg 30 [.int .i64 ci, .int .i64 ((i : Int) + 1), .int .i64 1, eFs [], .bool false] := by rw [hci]; rfl
        repeat' (first
    | simp (implicitDefEqProofs := false) only [push_cast, reduceIte, reduceCtorEq, Nat.reduceAdd, Nat.reduceSub, Nat.reduceEqDiff, Nat.reduceLT, Nat.reduceLeDiff, Nat.reduceBEq, Nat.reduceMul, Int.reduceLT, Int.reduceLE, Int.reduceEq, Int.reduceToNat, Int.reduceMul, Int.reduceNeg, Go.Proofs.Try.f9, eS_ty, eS_pl, eS_wk, List.length_map, a0, hk2, cast_lt hlt, Int.toNat_natCast, Nat.zero_add, hm4, wrap_succ hi9, ap_lo, st_lo, st_ne, st_eq, len_st, st_st, sst, at_set, at_set0, at_set2, at_set20, sst2, List.replicate_succ, List.drop_zero, ne_hi hk2, ne_hi' hk2, ne_h hk2, ne_h' hk2]
    | refine Sp2.f ?_ ?_
    | refine Spl.f ?_ ?_ <;> intro hb
    | refine rq_mk rfl (fun b hb => ?_))
        refine k_give wfp (k := H.length) (e := ⟨25, [eF (nF i)], .own⟩) (get_at0 H _) rfl (by simp) ?_ d1 ?_
        · subst hci
          simp only [List.map_cons, List.map_nil, bz_dat 4 _ (eS_dat _), bz_aggE, bz_winE, bz_intE, bz_listE, set_at0, get_at0, fzE, List.set_cons_succ, List.set_cons_zero, List.getElem?_cons_succ, List.getElem?_cons_zero, bzWin_fz, List.length_cons, List.length_nil, Nat.zero_add, Nat.reduceAdd, Nat.le_refl, if_true, List.drop_zero, List.take_succ_cons, List.take_zero]
          rfl
        repeat' (first
    | simp (implicitDefEqProofs := false) only [push_cast, reduceIte, reduceCtorEq, Nat.reduceAdd, Nat.reduceSub, Nat.reduceEqDiff, Nat.reduceLT, Nat.reduceLeDiff, Nat.reduceBEq, Nat.reduceMul, Int.reduceLT, Int.reduceLE, Int.reduceEq, Int.reduceToNat, Int.reduceMul, Int.reduceNeg, Go.Proofs.Try.f9, eS_ty, eS_pl, eS_wk, List.length_map, a0, hk2, cast_lt hlt, Int.toNat_natCast, Nat.zero_add, hm4, wrap_succ hi9, ap_lo, st_lo, st_ne, st_eq, len_st, st_st, sst, at_set, at_set0, at_set2, at_set20, sst2, List.replicate_succ, List.drop_zero, ne_hi hk2, ne_hi' hk2, ne_h hk2, ne_h' hk2, f24, fzE, eRs, hrep, List.map_cons, List.map_nil, List.getD_cons_zero, List.getD_cons_succ, cast0, cast1, cast2, Int.reduceBEq, Int.reduceBNe, bn1, bn2, bn3, bn4, bt1, bt2, bt3, bt4, bne_self_eq_false]
    | refine Sp2.f ?_ ?_
    | refine Spl.f ?_ ?_ <;> intro hb
    | refine rq_mk rfl (fun b hb => ?_))
        exact ⟨s', q1, hlt, tk_keep hT hk2, get_keep hk2, rfl⟩
      · have f24 : decide ((i : Int) < 64) = false := by simp; omega
        rw [if_neg (show ¬ i < capF false from hr)] at d1
        have hrep : eR (rep (rqF false i) 5 []) = .agg 30 [.int .i64 ci, .int .i64 ((i : Int) + 1), .int .i64 5, eFs [], .bool false] := by rw [hci]; rfl
        repeat' (first
    | simp (implicitDefEqProofs := false) only [push_cast, reduceIte, reduceCtorEq, Nat.reduceAdd, Nat.reduceSub, Nat.reduceEqDiff, Nat.reduceLT, Nat.reduceLeDiff, Nat.reduceBEq, Nat.reduceMul, Int.reduceLT, Int.reduceLE, Int.reduceEq, Int.reduceToNat, Int.reduceMul, Int.reduceNeg, Go.Proofs.Try.f9, eS_ty, eS_pl, eS_wk, List.length_map, a0, hk2, cast_lt hlt, Int.toNat_natCast, Nat.zero_add, hm4, wrap_succ hi9, ap_lo, st_lo, st_ne, st_eq, len_st, st_st, sst, at_set, at_set0, at_set2, at_set20, sst2, List.replicate_succ, List.drop_zero, ne_hi hk2, ne_hi' hk2, ne_h hk2, ne_h' hk2]
    | refine Sp2.f ?_ ?_
    | refine Spl.f ?_ ?_ <;> intro hb
    | refine rq_mk rfl (fun b hb => ?_))
        refine k_give wfp (k := H.length) (e := ⟨25, [eF (nF i)], .own⟩) (get_at0 H _) rfl (by simp) ?_ d1 ?_
        · subst hci
          simp only [List.map_cons, List.map_nil, bz_dat 4 _ (eS_dat _), bz_aggE, bz_winE, bz_intE, bz_listE, set_at0, get_at0, fzE, List.set_cons_succ, List.set_cons_zero, List.getElem?_cons_succ, List.getElem?_cons_zero, bzWin_fz, List.length_cons, List.length_nil, Nat.zero_add, Nat.reduceAdd, Nat.le_refl, if_true, List.drop_zero, List.take_succ_cons, List.take_zero]
          rfl
        repeat' (first
    | simp (implicitDefEqProofs := false) only [push_cast, reduceIte, reduceCtorEq, Nat.reduceAdd, Nat.reduceSub, Nat.reduceEqDiff, Nat.reduceLT, Nat.reduceLeDiff, Nat.reduceBEq, Nat.reduceMul, Int.reduceLT, Int.reduceLE, Int.reduceEq, Int.reduceToNat, Int.reduceMul, Int.reduceNeg, Go.Proofs.Try.f9, eS_ty, eS_pl, eS_wk, List.length_map, a0, hk2, cast_lt hlt, Int.toNat_natCast, Nat.zero_add, hm4, wrap_succ hi9, ap_lo, st_lo, st_ne, st_eq, len_st, st_st, sst, at_set, at_set0, at_set2, at_set20, sst2, List.replicate_succ, List.drop_zero, ne_hi hk2, ne_hi' hk2, ne_h hk2, ne_h' hk2, f24, fzE, eRs, hrep, List.map_cons, List.map_nil, List.getD_cons_zero, List.getD_cons_succ, cast0, cast1, cast2, Int.reduceBEq, Int.reduceBNe, bn1, bn2, bn3, bn4, bt1, bt2, bt3, bt4, bne_self_eq_false]
    | refine Sp2.f ?_ ?_
    | refine Spl.f ?_ ?_ <;> intro hb
    | refine rq_mk rfl (fun b hb => ?_))
        exact ⟨s', q1, hlt, tk_keep hT hk2, get_keep hk2, rfl⟩
  · have e : i = k := by omega
    subst e
    repeat' (first
    | simp (implicitDefEqProofs := false) only [push_cast, reduceIte, reduceCtorEq, Nat.reduceAdd, Nat.reduceSub, Nat.reduceEqDiff, Nat.reduceLT, Nat.reduceLeDiff, Nat.reduceBEq, Nat.reduceMul, Int.reduceLT, Int.reduceLE, Int.reduceEq, Int.reduceToNat, Int.reduceMul, Int.reduceNeg, Go.Proofs.Try.f9, eS_ty, eS_pl, eS_wk, List.length_map, a0, hk2, cast_ge hlt, Int.toNat_natCast, ap_lo, st_lo, st_ne, st_eq, len_st, st_st, sst, at_set, at_set0, at_set2, at_set20, sst2, List.replicate_succ, List.drop_zero, ne_hi hk2, ne_hi' hk2, ne_h hk2, ne_h' hk2]
    | refine Sp2.f ?_ ?_
    | refine Spl.f ?_ ?_ <;> intro hb
    | refine rq_mk rfl (fun b hb => ?_))
    refine rl_gen (FJ g h (fun i a => [(0, .int .i64 n), (1, .bool one), (2, .int .i64 wait), (6, .bool false), (7, .ref h.length [0] 33), (8, a 8), (9, a 9), (10, a 10), (11, a 11), (12, a 12), (13, a 13), (14, .int .i64 i), (15, a 15), (16, a 16), (24, a 24), (29, a 29), (44, a 44), (69, a 69), (76, a 76), (103, a 103)])) g ?_ ?_
    · exact ⟨s, ho.f2 (by omega), Nat.zero_le _, hT, a0, rfl⟩
    clear ho hT a0 hlt hi hk2 a
    clear s H hd hd0 hd1
    clear i
    rintro i env H ⟨s, ho, hi, hT, a0, henv⟩
    refine ⟨hi, ?_⟩
    rw [henv]
    generalize lk env = a
    clear henv env
    have hk2 := lt_some a0
    by_cases hlt : i < g
    · have hi9 : i < 9223372036854775807 := by omega
      have hm4 := mod4 i (by omega)
      obtain ⟨ci, hci⟩ : ∃ ci : Int, ci = ((i % 4 : Nat) : Int) := ⟨_, rfl⟩
      rw [← hci] at hm4
      have hw200 : IntKind.wrap .i64 (200 + (i : Int)) = 200 + (i : Int) := IntWalk.i64_in _ (by omega)
      obtain ⟨q1, q2⟩ := ho.step (by omega)
      have d1 := c_Do s 0 (rqG i) ho.c.ms.small ⟨by simp [rqG, pT], by simp [rqG]⟩
      rw [q2] at d1
      generalize (doS s 0 (rqG i)).1 = s' at d1 q1
      by_cases hr : i < 16
      · have f16 : decide ((i : Int) < 16) = true := by simp; omega
        rw [if_pos hr] at d1
        have hrep : eR (rep (rqG i) 4 []) = .agg 30 [.int .i64 ci, .int .i64 (200 + (i : Int)), .int .i64 4, eFs [], .bool false] := by rw [hci]; rfl
        repeat' (first
    | simp (implicitDefEqProofs := false) only [push_cast, reduceIte, reduceCtorEq, Nat.reduceAdd, Nat.reduceSub, Nat.reduceEqDiff, Nat.reduceLT, Nat.reduceLeDiff, Nat.reduceBEq, Nat.reduceMul, Int.reduceLT, Int.reduceLE, Int.reduceEq, Int.reduceToNat, Int.reduceMul, Int.reduceNeg, Go.Proofs.Try.f9, eS_ty, eS_pl, eS_wk, List.length_map, a0, hk2, hg, cast_lt hlt, Int.toNat_natCast, Nat.zero_add, hm4, hw200, wrap_succ hi9, ap_lo, st_lo, st_ne, st_eq, len_st, st_st, sst, at_set, at_set0, at_set2, at_set20, sst2, List.replicate_succ, List.drop_zero, ne_hi hk2, ne_hi' hk2, ne_h hk2, ne_h' hk2]
    | refine Sp2.f ?_ ?_
    | refine Spl.f ?_ ?_ <;> intro hb
    | refine rq_mk rfl (fun b hb => ?_))
        refine k_give wfp (k := H.length) (e := ⟨25, [eF ⟨4, 0, ByteArray.empty⟩], .own⟩) (get_at0 H _) rfl (by simp) ?_ d1 ?_
        · subst hci
          simp only [List.map_cons, List.map_nil, bz_dat 4 _ (eS_dat _), bz_aggE, bz_winE, bz_intE, bz_listE, set_at0, get_at0, fzE, List.set_cons_succ, List.set_cons_zero, List.getElem?_cons_succ, List.getElem?_cons_zero, bzWin_fz, List.length_cons, List.length_nil, Nat.zero_add, Nat.reduceAdd, Nat.le_refl, if_true, List.drop_zero, List.take_succ_cons, List.take_zero]
          rfl
        repeat' (first
    | simp (implicitDefEqProofs := false) only [push_cast, reduceIte, reduceCtorEq, Nat.reduceAdd, Nat.reduceSub, Nat.reduceEqDiff, Nat.reduceLT, Nat.reduceLeDiff, Nat.reduceBEq, Nat.reduceMul, Int.reduceLT, Int.reduceLE, Int.reduceEq, Int.reduceToNat, Int.reduceMul, Int.reduceNeg, Go.Proofs.Try.f9, eS_ty, eS_pl, eS_wk, List.length_map, a0, hk2, hg, cast_lt hlt, Int.toNat_natCast, Nat.zero_add, hm4, hw200, wrap_succ hi9, ap_lo, st_lo, st_ne, st_eq, len_st, st_st, sst, at_set, at_set0, at_set2, at_set20, sst2, List.replicate_succ, List.drop_zero, ne_hi hk2, ne_hi' hk2, ne_h hk2, ne_h' hk2, f16, fzE, eRs, hrep, List.map_cons, List.map_nil, List.getD_cons_zero, List.getD_cons_succ, cast0, cast1, cast2, Int.reduceBEq, Int.reduceBNe, bn1, bn2, bn3, bn4, bt1, bt2, bt3, bt4, bne_self_eq_false]
    | refine Sp2.f ?_ ?_
    | refine Spl.f ?_ ?_ <;> intro hb
    | refine rq_mk rfl (fun b hb => ?_))
        exact ⟨s', q1, hlt, tk_keep hT hk2, get_keep hk2, rfl⟩
      · have f16 : decide ((i : Int) < 16) = false := by simp; omega
        rw [if_neg hr] at d1
        have hrep : eR (rep (rqG i) 5 []) = .agg 30 [.int .i64 ci, .int .i64 (200 + (i : Int)), .int .i64 5, eFs [], .bool false] := by rw [hci]; rfl
        repeat' (first
    | simp (implicitDefEqProofs := false) only [push_cast, reduceIte, reduceCtorEq, Nat.reduceAdd, Nat.reduceSub, Nat.reduceEqDiff, Nat.reduceLT, Nat.reduceLeDiff, Nat.reduceBEq, Nat.reduceMul, Int.reduceLT, Int.reduceLE, Int.reduceEq, Int.reduceToNat, Int.reduceMul, Int.reduceNeg, Go.Proofs.Try.f9, eS_ty, eS_pl, eS_wk, List.length_map, a0, hk2, hg, cast_lt hlt, Int.toNat_natCast, Nat.zero_add, hm4, hw200, wrap_succ hi9, ap_lo, st_lo, st_ne, st_eq, len_st, st_st, sst, at_set, at_set0, at_set2, at_set20, sst2, List.replicate_succ, List.drop_zero, ne_hi hk2, ne_hi' hk2, ne_h hk2, ne_h' hk2]
    | refine Sp2.f ?_ ?_
    | refine Spl.f ?_ ?_ <;> intro hb
    | refine rq_mk rfl (fun b hb => ?_))
        refine k_give wfp (k := H.length) (e := ⟨25, [eF ⟨4, 0, ByteArray.empty⟩], .own⟩) (get_at0 H _) rfl (by simp) ?_ d1 ?_
        · subst hci
          simp only [List.map_cons, List.map_nil, bz_dat 4 _ (eS_dat _), bz_aggE, bz_winE, bz_intE, bz_listE, set_at0, get_at0, fzE, List.set_cons_succ, List.set_cons_zero, List.getElem?_cons_succ, List.getElem?_cons_zero, bzWin_fz, List.length_cons, List.length_nil, Nat.zero_add, Nat.reduceAdd, Nat.le_refl, if_true, List.drop_zero, List.take_succ_cons, List.take_zero]
          rfl
        repeat' (first
    | simp (implicitDefEqProofs := false) only [push_cast, reduceIte, reduceCtorEq, Nat.reduceAdd, Nat.reduceSub, Nat.reduceEqDiff, Nat.reduceLT, Nat.reduceLeDiff, Nat.reduceBEq, Nat.reduceMul, Int.reduceLT, Int.reduceLE, Int.reduceEq, Int.reduceToNat, Int.reduceMul, Int.reduceNeg, Go.Proofs.Try.f9, eS_ty, eS_pl, eS_wk, List.length_map, a0, hk2, hg, cast_lt hlt, Int.toNat_natCast, Nat.zero_add, hm4, hw200, wrap_succ hi9, ap_lo, st_lo, st_ne, st_eq, len_st, st_st, sst, at_set, at_set0, at_set2, at_set20, sst2, List.replicate_succ, List.drop_zero, ne_hi hk2, ne_hi' hk2, ne_h hk2, ne_h' hk2, f16, fzE, eRs, hrep, List.map_cons, List.map_nil, List.getD_cons_zero, List.getD_cons_succ, cast0, cast1, cast2, Int.reduceBEq, Int.reduceBNe, bn1, bn2, bn3, bn4, bt1, bt2, bt3, bt4, bne_self_eq_false]
    | refine Sp2.f ?_ ?_
    | refine Spl.f ?_ ?_ <;> intro hb
    | refine rq_mk rfl (fun b hb => ?_))
        exact ⟨s', q1, hlt, tk_keep hT hk2, get_keep hk2, rfl⟩
    · have hm := c_MaySpace6 s ho.c.ms.small
      rw [mayM6_eq, ms_may ho.c.ms] at hm
      repeat' (first
    | simp (implicitDefEqProofs := false) only [push_cast, reduceIte, reduceCtorEq, Nat.reduceAdd, Nat.reduceSub, Nat.reduceEqDiff, Nat.reduceLT, Nat.reduceLeDiff, Nat.reduceBEq, Nat.reduceMul, Int.reduceLT, Int.reduceLE, Int.reduceEq, Int.reduceToNat, Int.reduceMul, Int.reduceNeg, Go.Proofs.Try.f9, eS_ty, eS_pl, eS_wk, List.length_map, a0, hk2, hg, cast_ge hlt, hT, ap_lo, st_lo, st_ne, st_eq, len_st, st_st, sst, at_set, at_set0, at_set2, at_set20, sst2, List.replicate_succ, List.drop_zero, ne_hi hk2, ne_hi' hk2, ne_h hk2, ne_h' hk2]
    | refine Sp2.f ?_ ?_
    | refine Spl.f ?_ ?_ <;> intro hb
    | refine rq_mk rfl (fun b hb => ?_)
    | refine k_fn c_told ?_
    | refine k_fn hm ?_)

end Go.Abs
