/- Cs: a part of the proofs about the tuple space (layer 8). -/
import Derived.Test.YtelohjfiojpeeaaCa
import Derived.Test.YtelohjfiojpeeaaHp
set_option linter.all false
set_option maxRecDepth 100000
set_option maxHeartbeats 0
namespace Go.Abs
open Go
open Go.Proofs.Try (prog)
/-! ### SpaceCas -/
def CI (lm rm : Nat) (h : List Entry) (E : Nat → (Nat → AV) → Env) (i : Nat) (env : Env) (hh : List Entry) : Prop :=
  ∃ s has, C1 has i s ∧ i ≤ lm ∧ i ≤ rm ∧ i ≤ 20 ∧ hh.take h.length = h ∧ hh[h.length]? = some ⟨33, [eS s], .own⟩ ∧ hh[h.length + 1]? = some ⟨4, has.map .bool, .own⟩ ∧ env = E i (lk env)
theorem c_SpaceCas (l : List Int) (rp : List Bool) (hl : l.length ≤ 4294967296) (ht : rp.length ≤ 4294967296) :
    Fn prog 8 [.list 3 (l.map (.int .i64)), .list 4 (rp.map .bool)] (.bool true) := by
  refine run_8 rfl fun h => ?_
  repeat' (first
    | simp (implicitDefEqProofs := false) only [push_cast, reduceIte, reduceCtorEq, Nat.reduceAdd, Nat.reduceSub, Nat.reduceEqDiff, Nat.reduceLT, Nat.reduceLeDiff, Nat.reduceBEq, Nat.reduceMul, Int.reduceLT, Int.reduceLE, Int.reduceEq, Int.reduceToNat, Int.reduceMul, Int.reduceNeg, Go.Proofs.Try.f8, eS_ty, eS_pl, eS_wk, List.length_map, ap_lo, st_lo, st_ne, st_eq, len_st, st_st, sst, at_set, at_set0, at_set2, at_set20, sst2, List.replicate_succ, List.drop_zero]
    | refine Sp2.f ?_ ?_
    | refine Spl.f ?_ ?_ <;> intro hb
    | refine rq_mk rfl (fun b hb => ?_)
    | refine r_draw (U := [[], [], [], [], [], [], [], [], []]) (H := []) hmix (by kernel_rfl) (by decide +kernel) (by kernel_rfl) ?_
    | refine r_draw (U := [[], [], [], [], [], [], [], [], [], [], [], [], [], [], [], [], [], [], [], [], [], [], [], [], [], [], [], [25], [], [], [], [], []]) (H := []) hmix (by kernel_rfl) (by decide +kernel) (by kernel_rfl) ?_
    | refine k_fn (c_New 15 15) ?_)
  · rw [by_bool]; decide
  refine rl_gen (CI l.length rp.length h (fun i a => [(0, .list 3 (l.map (.int .i64))), (1, .list 4 (rp.map .bool)), (4, .bool false), (5, .ref h.length [0] 33), (6, .win (h.length + 1) [] 4 0 4 4), (7, .int .i64 i), (8, a 8), (9, a 9), (10, a 10), (11, a 11), (12, a 12), (13, a 13), (14, a 14), (15, a 15), (31, a 31), (56, a 56), (73, a 73), (77, a 77), (88, a 88), (90, a 90), (126, a 126)])) l.length ?_ ?_
  · exact ⟨newS 15 15, _, C1.new, Nat.zero_le _, Nat.zero_le _, Nat.zero_le _, by simp, get_at0 h _, get_at h _ 1, rfl⟩
  rintro i env H ⟨s, has, ho, hi, hir, hi20, hT, a0, a1, henv⟩
  refine ⟨hi, ?_⟩
  rw [henv]
  generalize lk env = a
  clear henv env
  have hk2 := lt_some a0
  have hkg := lt_some a1
  have hkl : h.length < h.length + 1 := Nat.lt_succ_self _
  have hdo : (i < l.length ∧ i < 20 ∧ i < rp.length) ∨ (¬ i < l.length ∨ ¬ i < 20 ∨ ¬ i < rp.length) := by omega
  rcases hdo with ⟨hli, h20, hri⟩ | hend
  · have f20 : decide ((i : Int) < 20) = true := by simp; omega
    have hi9 : i < 9223372036854775807 := by omega
    have hx : l[i]? = some (l.getD i 0) := by rw [List.getD_eq_getElem?_getD, List.getElem?_eq_getElem hli]; rfl
    have htx : rp[i]? = some (rp.getD i false) := by rw [List.getD_eq_getElem?_getD, List.getElem?_eq_getElem hri]; rfl
    obtain ⟨v, hv, hv4⟩ : ∃ v : Nat, bits .and .i64 (l.getD i 0) 3 = (v : Int) ∧ v < 4 := by
      have := bits3 (l.getD i 0)
      exact ⟨(bits .and .i64 (l.getD i 0) 3).toNat, by omega, by omega⟩
    have hvh : v < has.length := by rw [ho.hl]; exact hv4
    have hv5 : (0 ≤ (v : Int) ∧ (v : Int) < 4) = True := by simp; omega
    have hv6 : (0 ≤ (v : Int) ∧ (v : Int) < ((4 : Nat) : Int)) = True := by simp; omega
    have gh : (has.map AV.bool)[v]? = some (.bool (has.getD v false)) := by
      rw [List.getElem?_map, List.getD_eq_getElem?_getD, List.getElem?_eq_getElem hvh]; rfl
    have hlen := ho.len
    have hw0 : IntKind.wrap .i64 ((s.Items.length : Int) + 0) = (s.Items.length : Int) := by rw [IntWalk.i64_in _ (by omega)]; omega
    have hw1 : IntKind.wrap .i64 ((s.Items.length : Int) + 1) = (s.Items.length : Int) + 1 := IntWalk.i64_in _ (by omega)
    have hw2 : IntKind.wrap .i64 ((s.Items.length : Int) - 1) = (s.Items.length : Int) - 1 := IntWalk.i64_in _ (by omega)
    have hw3 : IntKind.wrap .i64 ((s.Items.length : Int) + 1 - 1) = (s.Items.length : Int) := by rw [IntWalk.i64_in _ (by omega)]; omega
    have gI : ∀ t : Spc, getP (eS t) [1] = some (.list 74 (t.Items.map eI)) := fun t => rfl
    cases hb : rp.getD i false with
    | true =>
      rw [hb] at htx
      cases hh : has.getD v false with
      | true =>
        rw [hh] at gh
        obtain ⟨⟨t, q1⟩, q2, q3, q4⟩ := (ho.step (b := true) hv4 h20).1 hh
        try simp only [reduceIte, Bool.false_eq_true] at q1
        try simp only [reduceIte, Bool.false_eq_true] at q3
        have d1 := c_Do s i (rqC v i 7) ho.c.ms.small ⟨by simp [rqC, pC], by simp [rqC, tC]⟩
        rw [q1] at d1
        generalize (doS s i (rqC v i 7)).1 = s' at d1 q2 q3 q4
        have hfi := c_Find s' (tC v i) q4.c.ms.small.items (by simp [tC])
        rw [q3] at hfi
        have hrep : eR ⟨3, (i : Int) + 1, 2, t, false⟩ = .agg 30 [.int .i64 3, .int .i64 ((i : Int) + 1), .int .i64 2, eFs t, .bool false] := rfl
        repeat' (first
    | simp (implicitDefEqProofs := false) only [push_cast, reduceIte, reduceCtorEq, Nat.reduceAdd, Nat.reduceSub, Nat.reduceEqDiff, Nat.reduceLT, Nat.reduceLeDiff, Nat.reduceBEq, Nat.reduceMul, Int.reduceLT, Int.reduceLE, Int.reduceEq, Int.reduceToNat, Int.reduceMul, Int.reduceNeg, Go.Proofs.Try.f8, eS_ty, eS_pl, eS_wk, List.length_map, a0, a1, hk2, hkg, f20, cast_lt hli, cast_lt hri, in_row hli, in_row hri, getD_map (AV.int .i64) hx, getD_map AV.bool htx, hv, hv5, hv6, cast4, gh, Int.toNat_natCast, Nat.zero_add, wrap_succ hi9, ap_lo, st_lo, st_ne, st_eq, len_st, st_st, sst, at_set, at_set0, at_set2, at_set20, sst2, List.replicate_succ, List.drop_zero, ne_hi hk2, ne_hi' hk2, ne_h hk2, ne_h' hk2, ne_hi hkg, ne_hi' hkg, ne_h hkg, ne_h' hkg]
    | refine Sp2.f ?_ ?_
    | refine Spl.f ?_ ?_ <;> intro hb
    | refine rq_mk rfl (fun b hb => ?_)
    | refine r_draw (U := [[], [], [], [], [], [], [], [], []]) (H := []) hmix (by kernel_rfl) (by decide +kernel) (by kernel_rfl) ?_
    | refine r_draw (U := [[], [], [], [], [], [], [], [], [], [], [], [], [], [], [], [], [], [], [], [], [], [], [], [], [], [], [], [25], [], [], [], [], []]) (H := []) hmix (by kernel_rfl) (by decide +kernel) (by kernel_rfl) ?_)
        refine k_fz wfp (k := H.length) (e := ⟨25, [eF (nF v), eF ⟨5, 0, ByteArray.empty⟩], .own⟩) (get_at0 H _) rfl (by simp) ?_
        refine k_give wfp (k := H.length + 1) (e := ⟨25, [eF (nF v), eF (nF i)], .own⟩) (by rw [set_at0, get_at]; rfl) rfl (by simp) ?_ d1 ?_
        · simp only [List.map_cons, List.map_nil, bz_dat 4 _ (eS_dat _), bz_aggE, bz_winE, bz_intE, bz_listE, set_at0, set_at, get_at0, get_at, at_set, at_set0, fzE, List.set_cons_succ, List.set_cons_zero, List.getElem?_cons_succ, List.getElem?_cons_zero, bzWin_fz, List.length_cons, List.length_nil, Nat.zero_add, Nat.reduceAdd, Nat.le_refl, if_true, List.drop_zero, List.take_succ_cons, List.take_zero]
          rfl
        repeat' (first
    | simp (implicitDefEqProofs := false) only [push_cast, reduceIte, reduceCtorEq, Nat.reduceAdd, Nat.reduceSub, Nat.reduceEqDiff, Nat.reduceLT, Nat.reduceLeDiff, Nat.reduceBEq, Nat.reduceMul, Int.reduceLT, Int.reduceLE, Int.reduceEq, Int.reduceToNat, Int.reduceMul, Int.reduceNeg, Go.Proofs.Try.f8, eS_ty, eS_pl, eS_wk, List.length_map, a0, a1, hk2, hkg, f20, cast_lt hli, cast_lt hri, in_row hli, in_row hri, getD_map (AV.int .i64) hx, getD_map AV.bool htx, hv, hv5, hv6, cast4, gh, Int.toNat_natCast, Nat.zero_add, wrap_succ hi9, ap_lo, st_lo, st_ne, st_eq, len_st, st_st, sst, at_set, at_set0, at_set2, at_set20, sst2, List.replicate_succ, List.drop_zero, ne_hi hk2, ne_hi' hk2, ne_h hk2, ne_h' hk2, ne_hi hkg, ne_hi' hkg, ne_h hkg, ne_h' hkg, fzE, eRs, hrep, q2, gI, hw0, hw1, hw2, hw3, List.map_cons, List.map_nil, List.getD_cons_zero, List.getD_cons_succ, cast0, cast1, cast2, Int.reduceBEq, Int.reduceBNe, bn1, bn2, bn3, bn4, bt1, bt2, bt3, bt4, bne_self_eq_false]
    | refine Sp2.f ?_ ?_
    | refine Spl.f ?_ ?_ <;> intro hb
    | refine rq_mk rfl (fun b hb => ?_)
    | refine r_draw (U := [[], [], [], [], [], [], [], [], []]) (H := []) hmix (by kernel_rfl) (by decide +kernel) (by kernel_rfl) ?_
    | refine r_draw (U := [[], [], [], [], [], [], [], [], [], [], [], [], [], [], [], [], [], [], [], [], [], [], [], [], [], [], [], [25], [], [], [], [], []]) (H := []) hmix (by kernel_rfl) (by decide +kernel) (by kernel_rfl) ?_
    | refine dk_read wfp [H.length + 1] (fun h2 hh => by have e := hh (H.length + 1) (by simp); simp only [set_at0, set_at, get_at0, get_at, at_set, at_set0, fzE, List.getElem?_cons_succ, List.getElem?_cons_zero] at e; simp only [List.map_cons, List.map_nil, bz_dat 4 _ (eS_dat _), bz_aggE, bz_winE, bz_intE, bz_listE, e, bzWin_fz, List.length_cons, List.length_nil, Nat.zero_add, Nat.reduceAdd, Nat.le_refl, if_true, List.drop_zero, List.take_succ_cons, List.take_zero]; rfl) hfi ?_)
        exact ⟨s', has, q4, hli, hri, h20, tk_keep hT hk2, get_keep hk2, get_stay a1 (by omega), rfl⟩
      | false =>
        rw [hh] at gh
        obtain ⟨⟨t, q1⟩, q2, q3, q4⟩ := (ho.step (b := false) hv4 h20).1 hh
        try simp only [reduceIte, Bool.false_eq_true] at q1
        try simp only [reduceIte, Bool.false_eq_true] at q3
        have d1 := c_Do s i (rqC v i 7) ho.c.ms.small ⟨by simp [rqC, pC], by simp [rqC, tC]⟩
        rw [q1] at d1
        generalize (doS s i (rqC v i 7)).1 = s' at d1 q2 q3 q4
        have hfi := c_Find s' (tC v i) q4.c.ms.small.items (by simp [tC])
        rw [q3] at hfi
        have hrep : eR ⟨3, (i : Int) + 1, 3, t, false⟩ = .agg 30 [.int .i64 3, .int .i64 ((i : Int) + 1), .int .i64 3, eFs t, .bool false] := rfl
        repeat' (first
    | simp (implicitDefEqProofs := false) only [push_cast, reduceIte, reduceCtorEq, Nat.reduceAdd, Nat.reduceSub, Nat.reduceEqDiff, Nat.reduceLT, Nat.reduceLeDiff, Nat.reduceBEq, Nat.reduceMul, Int.reduceLT, Int.reduceLE, Int.reduceEq, Int.reduceToNat, Int.reduceMul, Int.reduceNeg, Go.Proofs.Try.f8, eS_ty, eS_pl, eS_wk, List.length_map, a0, a1, hk2, hkg, f20, cast_lt hli, cast_lt hri, in_row hli, in_row hri, getD_map (AV.int .i64) hx, getD_map AV.bool htx, hv, hv5, hv6, cast4, gh, Int.toNat_natCast, Nat.zero_add, wrap_succ hi9, ap_lo, st_lo, st_ne, st_eq, len_st, st_st, sst, at_set, at_set0, at_set2, at_set20, sst2, List.replicate_succ, List.drop_zero, ne_hi hk2, ne_hi' hk2, ne_h hk2, ne_h' hk2, ne_hi hkg, ne_hi' hkg, ne_h hkg, ne_h' hkg]
    | refine Sp2.f ?_ ?_
    | refine Spl.f ?_ ?_ <;> intro hb
    | refine rq_mk rfl (fun b hb => ?_)
    | refine r_draw (U := [[], [], [], [], [], [], [], [], []]) (H := []) hmix (by kernel_rfl) (by decide +kernel) (by kernel_rfl) ?_
    | refine r_draw (U := [[], [], [], [], [], [], [], [], [], [], [], [], [], [], [], [], [], [], [], [], [], [], [], [], [], [], [], [25], [], [], [], [], []]) (H := []) hmix (by kernel_rfl) (by decide +kernel) (by kernel_rfl) ?_)
        refine k_fz wfp (k := H.length) (e := ⟨25, [eF (nF v), eF ⟨5, 0, ByteArray.empty⟩], .own⟩) (get_at0 H _) rfl (by simp) ?_
        refine k_give wfp (k := H.length + 1) (e := ⟨25, [eF (nF v), eF (nF i)], .own⟩) (by rw [set_at0, get_at]; rfl) rfl (by simp) ?_ d1 ?_
        · simp only [List.map_cons, List.map_nil, bz_dat 4 _ (eS_dat _), bz_aggE, bz_winE, bz_intE, bz_listE, set_at0, set_at, get_at0, get_at, at_set, at_set0, fzE, List.set_cons_succ, List.set_cons_zero, List.getElem?_cons_succ, List.getElem?_cons_zero, bzWin_fz, List.length_cons, List.length_nil, Nat.zero_add, Nat.reduceAdd, Nat.le_refl, if_true, List.drop_zero, List.take_succ_cons, List.take_zero]
          rfl
        repeat' (first
    | simp (implicitDefEqProofs := false) only [push_cast, reduceIte, reduceCtorEq, Nat.reduceAdd, Nat.reduceSub, Nat.reduceEqDiff, Nat.reduceLT, Nat.reduceLeDiff, Nat.reduceBEq, Nat.reduceMul, Int.reduceLT, Int.reduceLE, Int.reduceEq, Int.reduceToNat, Int.reduceMul, Int.reduceNeg, Go.Proofs.Try.f8, eS_ty, eS_pl, eS_wk, List.length_map, a0, a1, hk2, hkg, f20, cast_lt hli, cast_lt hri, in_row hli, in_row hri, getD_map (AV.int .i64) hx, getD_map AV.bool htx, hv, hv5, hv6, cast4, gh, Int.toNat_natCast, Nat.zero_add, wrap_succ hi9, ap_lo, st_lo, st_ne, st_eq, len_st, st_st, sst, at_set, at_set0, at_set2, at_set20, sst2, List.replicate_succ, List.drop_zero, ne_hi hk2, ne_hi' hk2, ne_h hk2, ne_h' hk2, ne_hi hkg, ne_hi' hkg, ne_h hkg, ne_h' hkg, fzE, eRs, hrep, q2, gI, hw0, hw1, hw2, hw3, List.map_cons, List.map_nil, List.getD_cons_zero, List.getD_cons_succ, cast0, cast1, cast2, Int.reduceBEq, Int.reduceBNe, bn1, bn2, bn3, bn4, bt1, bt2, bt3, bt4, bne_self_eq_false]
    | refine Sp2.f ?_ ?_
    | refine Spl.f ?_ ?_ <;> intro hb
    | refine rq_mk rfl (fun b hb => ?_)
    | refine r_draw (U := [[], [], [], [], [], [], [], [], []]) (H := []) hmix (by kernel_rfl) (by decide +kernel) (by kernel_rfl) ?_
    | refine r_draw (U := [[], [], [], [], [], [], [], [], [], [], [], [], [], [], [], [], [], [], [], [], [], [], [], [], [], [], [], [25], [], [], [], [], []]) (H := []) hmix (by kernel_rfl) (by decide +kernel) (by kernel_rfl) ?_
    | refine dk_read wfp [H.length + 1] (fun h2 hh => by have e := hh (H.length + 1) (by simp); simp only [set_at0, set_at, get_at0, get_at, at_set, at_set0, fzE, List.getElem?_cons_succ, List.getElem?_cons_zero] at e; simp only [List.map_cons, List.map_nil, bz_dat 4 _ (eS_dat _), bz_aggE, bz_winE, bz_intE, bz_listE, e, bzWin_fz, List.length_cons, List.length_nil, Nat.zero_add, Nat.reduceAdd, Nat.le_refl, if_true, List.drop_zero, List.take_succ_cons, List.take_zero]; rfl) hfi ?_)
        exact ⟨s', has, q4, hli, hri, h20, tk_keep hT hk2, get_keep hk2, get_stay a1 (by omega), rfl⟩
    | false =>
      rw [hb] at htx
      cases hh : has.getD v false with
      | true =>
        rw [hh] at gh
        obtain ⟨⟨t, q1⟩, q2, q3, q4⟩ := (ho.step (b := true) hv4 h20).2.1 hh
        try simp only [reduceIte, Bool.false_eq_true] at q1
        try simp only [reduceIte, Bool.false_eq_true] at q3
        have d1 := c_Do s i (rqC v i 6) ho.c.ms.small ⟨by simp [rqC, pC], by simp [rqC, tC]⟩
        rw [q1] at d1
        generalize (doS s i (rqC v i 6)).1 = s' at d1 q2 q3 q4
        have hfi := c_Find s' (tC v i) q4.c.ms.small.items (by simp [tC])
        rw [q3] at hfi
        have hrep : eR ⟨3, (i : Int) + 1, 3, t, false⟩ = .agg 30 [.int .i64 3, .int .i64 ((i : Int) + 1), .int .i64 3, eFs t, .bool false] := rfl
        repeat' (first
    | simp (implicitDefEqProofs := false) only [push_cast, reduceIte, reduceCtorEq, Nat.reduceAdd, Nat.reduceSub, Nat.reduceEqDiff, Nat.reduceLT, Nat.reduceLeDiff, Nat.reduceBEq, Nat.reduceMul, Int.reduceLT, Int.reduceLE, Int.reduceEq, Int.reduceToNat, Int.reduceMul, Int.reduceNeg, Go.Proofs.Try.f8, eS_ty, eS_pl, eS_wk, List.length_map, a0, a1, hk2, hkg, f20, cast_lt hli, cast_lt hri, in_row hli, in_row hri, getD_map (AV.int .i64) hx, getD_map AV.bool htx, hv, hv5, hv6, cast4, gh, Int.toNat_natCast, Nat.zero_add, wrap_succ hi9, ap_lo, st_lo, st_ne, st_eq, len_st, st_st, sst, at_set, at_set0, at_set2, at_set20, sst2, List.replicate_succ, List.drop_zero, ne_hi hk2, ne_hi' hk2, ne_h hk2, ne_h' hk2, ne_hi hkg, ne_hi' hkg, ne_h hkg, ne_h' hkg]
    | refine Sp2.f ?_ ?_
    | refine Spl.f ?_ ?_ <;> intro hb
    | refine rq_mk rfl (fun b hb => ?_)
    | refine r_draw (U := [[], [], [], [], [], [], [], [], []]) (H := []) hmix (by kernel_rfl) (by decide +kernel) (by kernel_rfl) ?_
    | refine r_draw (U := [[], [], [], [], [], [], [], [], [], [], [], [], [], [], [], [], [], [], [], [], [], [], [], [], [], [], [], [25], [], [], [], [], []]) (H := []) hmix (by kernel_rfl) (by decide +kernel) (by kernel_rfl) ?_)
        refine k_fz wfp (k := H.length) (e := ⟨25, [eF (nF v), eF ⟨5, 0, ByteArray.empty⟩], .own⟩) (get_at0 H _) rfl (by simp) ?_
        refine k_give wfp (k := H.length + 1) (e := ⟨25, [eF (nF v), eF (nF i)], .own⟩) (by rw [set_at0, get_at]; rfl) rfl (by simp) ?_ d1 ?_
        · simp only [List.map_cons, List.map_nil, bz_dat 4 _ (eS_dat _), bz_aggE, bz_winE, bz_intE, bz_listE, set_at0, set_at, get_at0, get_at, at_set, at_set0, fzE, List.set_cons_succ, List.set_cons_zero, List.getElem?_cons_succ, List.getElem?_cons_zero, bzWin_fz, List.length_cons, List.length_nil, Nat.zero_add, Nat.reduceAdd, Nat.le_refl, if_true, List.drop_zero, List.take_succ_cons, List.take_zero]
          rfl
        repeat' (first
    | simp (implicitDefEqProofs := false) only [push_cast, reduceIte, reduceCtorEq, Nat.reduceAdd, Nat.reduceSub, Nat.reduceEqDiff, Nat.reduceLT, Nat.reduceLeDiff, Nat.reduceBEq, Nat.reduceMul, Int.reduceLT, Int.reduceLE, Int.reduceEq, Int.reduceToNat, Int.reduceMul, Int.reduceNeg, Go.Proofs.Try.f8, eS_ty, eS_pl, eS_wk, List.length_map, a0, a1, hk2, hkg, f20, cast_lt hli, cast_lt hri, in_row hli, in_row hri, getD_map (AV.int .i64) hx, getD_map AV.bool htx, hv, hv5, hv6, cast4, gh, Int.toNat_natCast, Nat.zero_add, wrap_succ hi9, ap_lo, st_lo, st_ne, st_eq, len_st, st_st, sst, at_set, at_set0, at_set2, at_set20, sst2, List.replicate_succ, List.drop_zero, ne_hi hk2, ne_hi' hk2, ne_h hk2, ne_h' hk2, ne_hi hkg, ne_hi' hkg, ne_h hkg, ne_h' hkg, fzE, eRs, hrep, q2, gI, hw0, hw1, hw2, hw3, List.map_cons, List.map_nil, List.getD_cons_zero, List.getD_cons_succ, cast0, cast1, cast2, Int.reduceBEq, Int.reduceBNe, bn1, bn2, bn3, bn4, bt1, bt2, bt3, bt4, bne_self_eq_false]
    | refine Sp2.f ?_ ?_
    | refine Spl.f ?_ ?_ <;> intro hb
    | refine rq_mk rfl (fun b hb => ?_)
    | refine r_draw (U := [[], [], [], [], [], [], [], [], []]) (H := []) hmix (by kernel_rfl) (by decide +kernel) (by kernel_rfl) ?_
    | refine r_draw (U := [[], [], [], [], [], [], [], [], [], [], [], [], [], [], [], [], [], [], [], [], [], [], [], [], [], [], [], [25], [], [], [], [], []]) (H := []) hmix (by kernel_rfl) (by decide +kernel) (by kernel_rfl) ?_
    | refine dk_read wfp [H.length + 1] (fun h2 hh => by have e := hh (H.length + 1) (by simp); simp only [set_at0, set_at, get_at0, get_at, at_set, at_set0, fzE, List.getElem?_cons_succ, List.getElem?_cons_zero] at e; simp only [List.map_cons, List.map_nil, bz_dat 4 _ (eS_dat _), bz_aggE, bz_winE, bz_intE, bz_listE, e, bzWin_fz, List.length_cons, List.length_nil, Nat.zero_add, Nat.reduceAdd, Nat.le_refl, if_true, List.drop_zero, List.take_succ_cons, List.take_zero]; rfl) hfi ?_)
        exact ⟨s', has, q4, hli, hri, h20, tk_keep hT hk2, get_keep hk2, get_stay a1 (by omega), rfl⟩
      | false =>
        rw [hh] at gh
        obtain ⟨⟨t, q1⟩, q2, q3, q4⟩ := (ho.step (b := true) hv4 h20).2.2 hh
        try simp only [reduceIte, Bool.false_eq_true] at q1
        try simp only [reduceIte, Bool.false_eq_true] at q3
        have d1 := c_Do s i (rqC v i 6) ho.c.ms.small ⟨by simp [rqC, pC], by simp [rqC, tC]⟩
        rw [q1] at d1
        generalize (doS s i (rqC v i 6)).1 = s' at d1 q2 q3 q4
        have hfi := c_Find s' (tC v i) q4.c.ms.small.items (by simp [tC])
        rw [q3] at hfi
        have hrep : eR ⟨3, (i : Int) + 1, 1, t, false⟩ = .agg 30 [.int .i64 3, .int .i64 ((i : Int) + 1), .int .i64 1, eFs t, .bool false] := rfl
        repeat' (first
    | simp (implicitDefEqProofs := false) only [push_cast, reduceIte, reduceCtorEq, Nat.reduceAdd, Nat.reduceSub, Nat.reduceEqDiff, Nat.reduceLT, Nat.reduceLeDiff, Nat.reduceBEq, Nat.reduceMul, Int.reduceLT, Int.reduceLE, Int.reduceEq, Int.reduceToNat, Int.reduceMul, Int.reduceNeg, Go.Proofs.Try.f8, eS_ty, eS_pl, eS_wk, List.length_map, a0, a1, hk2, hkg, f20, cast_lt hli, cast_lt hri, in_row hli, in_row hri, getD_map (AV.int .i64) hx, getD_map AV.bool htx, hv, hv5, hv6, cast4, gh, Int.toNat_natCast, Nat.zero_add, wrap_succ hi9, ap_lo, st_lo, st_ne, st_eq, len_st, st_st, sst, at_set, at_set0, at_set2, at_set20, sst2, List.replicate_succ, List.drop_zero, ne_hi hk2, ne_hi' hk2, ne_h hk2, ne_h' hk2, ne_hi hkg, ne_hi' hkg, ne_h hkg, ne_h' hkg]
    | refine Sp2.f ?_ ?_
    | refine Spl.f ?_ ?_ <;> intro hb
    | refine rq_mk rfl (fun b hb => ?_)
    | refine r_draw (U := [[], [], [], [], [], [], [], [], []]) (H := []) hmix (by kernel_rfl) (by decide +kernel) (by kernel_rfl) ?_
    | refine r_draw (U := [[], [], [], [], [], [], [], [], [], [], [], [], [], [], [], [], [], [], [], [], [], [], [], [], [], [], [], [25], [], [], [], [], []]) (H := []) hmix (by kernel_rfl) (by decide +kernel) (by kernel_rfl) ?_)
        refine k_fz wfp (k := H.length) (e := ⟨25, [eF (nF v), eF ⟨5, 0, ByteArray.empty⟩], .own⟩) (get_at0 H _) rfl (by simp) ?_
        refine k_give wfp (k := H.length + 1) (e := ⟨25, [eF (nF v), eF (nF i)], .own⟩) (by rw [set_at0, get_at]; rfl) rfl (by simp) ?_ d1 ?_
        · simp only [List.map_cons, List.map_nil, bz_dat 4 _ (eS_dat _), bz_aggE, bz_winE, bz_intE, bz_listE, set_at0, set_at, get_at0, get_at, at_set, at_set0, fzE, List.set_cons_succ, List.set_cons_zero, List.getElem?_cons_succ, List.getElem?_cons_zero, bzWin_fz, List.length_cons, List.length_nil, Nat.zero_add, Nat.reduceAdd, Nat.le_refl, if_true, List.drop_zero, List.take_succ_cons, List.take_zero]
          rfl
        repeat' (first
    | simp (implicitDefEqProofs := false) only [push_cast, reduceIte, reduceCtorEq, Nat.reduceAdd, Nat.reduceSub, Nat.reduceEqDiff, Nat.reduceLT, Nat.reduceLeDiff, Nat.reduceBEq, Nat.reduceMul, Int.reduceLT, Int.reduceLE, Int.reduceEq, Int.reduceToNat, Int.reduceMul, Int.reduceNeg, Go.Proofs.Try.f8, eS_ty, eS_pl, eS_wk, List.length_map, a0, a1, hk2, hkg, f20, cast_lt hli, cast_lt hri, in_row hli, in_row hri, getD_map (AV.int .i64) hx, getD_map AV.bool htx, hv, hv5, hv6, cast4, gh, Int.toNat_natCast, Nat.zero_add, wrap_succ hi9, ap_lo, st_lo, st_ne, st_eq, len_st, st_st, sst, at_set, at_set0, at_set2, at_set20, sst2, List.replicate_succ, List.drop_zero, ne_hi hk2, ne_hi' hk2, ne_h hk2, ne_h' hk2, ne_hi hkg, ne_hi' hkg, ne_h hkg, ne_h' hkg, fzE, eRs, hrep, q2, gI, hw0, hw1, hw2, hw3, List.map_cons, List.map_nil, List.getD_cons_zero, List.getD_cons_succ, cast0, cast1, cast2, Int.reduceBEq, Int.reduceBNe, bn1, bn2, bn3, bn4, bt1, bt2, bt3, bt4, bne_self_eq_false]
    | refine Sp2.f ?_ ?_
    | refine Spl.f ?_ ?_ <;> intro hb
    | refine rq_mk rfl (fun b hb => ?_)
    | refine r_draw (U := [[], [], [], [], [], [], [], [], []]) (H := []) hmix (by kernel_rfl) (by decide +kernel) (by kernel_rfl) ?_
    | refine r_draw (U := [[], [], [], [], [], [], [], [], [], [], [], [], [], [], [], [], [], [], [], [], [], [], [], [], [], [], [], [25], [], [], [], [], []]) (H := []) hmix (by kernel_rfl) (by decide +kernel) (by kernel_rfl) ?_
    | refine dk_read wfp [H.length + 1] (fun h2 hh => by have e := hh (H.length + 1) (by simp); simp only [set_at0, set_at, get_at0, get_at, at_set, at_set0, fzE, List.getElem?_cons_succ, List.getElem?_cons_zero] at e; simp only [List.map_cons, List.map_nil, bz_dat 4 _ (eS_dat _), bz_aggE, bz_winE, bz_intE, bz_listE, e, bzWin_fz, List.length_cons, List.length_nil, Nat.zero_add, Nat.reduceAdd, Nat.le_refl, if_true, List.drop_zero, List.take_succ_cons, List.take_zero]; rfl) hfi ?_)
        exact ⟨s', has.set v true, q4, hli, hri, h20, tk_keep4 hT hk2 hkl, get_keep5 hk2, by rw [get_keep4 hkg hkl, List.map_set], rfl⟩
  · have hends : decide ((i : Int) < (l.length : Int)) = false ∨ (decide ((i : Int) < (l.length : Int)) = true ∧ decide ((i : Int) < 20) = false) ∨ (decide ((i : Int) < (l.length : Int)) = true ∧ decide ((i : Int) < 20) = true ∧ decide ((i : Int) < (rp.length : Int)) = false) := by
      by_cases h1 : i < l.length
      · by_cases h2 : i < 20
        · exact .inr (.inr ⟨cast_lt h1, by simp; omega, cast_ge (by omega)⟩)
        · exact .inr (.inl ⟨cast_lt h1, by simp; omega⟩)
      · exact .inl (cast_ge h1)
    rcases hends with c1 | ⟨c1, c2⟩ | ⟨c1, c2, c3⟩
    · repeat' (first
    | simp (implicitDefEqProofs := false) only [push_cast, reduceIte, reduceCtorEq, Nat.reduceAdd, Nat.reduceSub, Nat.reduceEqDiff, Nat.reduceLT, Nat.reduceLeDiff, Nat.reduceBEq, Nat.reduceMul, Int.reduceLT, Int.reduceLE, Int.reduceEq, Int.reduceToNat, Int.reduceMul, Int.reduceNeg, Go.Proofs.Try.f8, List.length_map, c1, hT, ap_lo, st_lo, st_ne, st_eq, len_st, st_st, sst, at_set, at_set0, at_set2, at_set20, sst2, List.replicate_succ, List.drop_zero]
    | refine Sp2.f ?_ ?_
    | refine Spl.f ?_ ?_ <;> intro hb
    | refine rq_mk rfl (fun b hb => ?_)
    | refine r_draw (U := [[], [], [], [], [], [], [], [], []]) (H := []) hmix (by kernel_rfl) (by decide +kernel) (by kernel_rfl) ?_
    | refine r_draw (U := [[], [], [], [], [], [], [], [], [], [], [], [], [], [], [], [], [], [], [], [], [], [], [], [], [], [], [], [25], [], [], [], [], []]) (H := []) hmix (by kernel_rfl) (by decide +kernel) (by kernel_rfl) ?_
    | refine k_fn c_told ?_)
    · repeat' (first
    | simp (implicitDefEqProofs := false) only [push_cast, reduceIte, reduceCtorEq, Nat.reduceAdd, Nat.reduceSub, Nat.reduceEqDiff, Nat.reduceLT, Nat.reduceLeDiff, Nat.reduceBEq, Nat.reduceMul, Int.reduceLT, Int.reduceLE, Int.reduceEq, Int.reduceToNat, Int.reduceMul, Int.reduceNeg, Go.Proofs.Try.f8, List.length_map, c1, c2, hT, ap_lo, st_lo, st_ne, st_eq, len_st, st_st, sst, at_set, at_set0, at_set2, at_set20, sst2, List.replicate_succ, List.drop_zero]
    | refine Sp2.f ?_ ?_
    | refine Spl.f ?_ ?_ <;> intro hb
    | refine rq_mk rfl (fun b hb => ?_)
    | refine r_draw (U := [[], [], [], [], [], [], [], [], []]) (H := []) hmix (by kernel_rfl) (by decide +kernel) (by kernel_rfl) ?_
    | refine r_draw (U := [[], [], [], [], [], [], [], [], [], [], [], [], [], [], [], [], [], [], [], [], [], [], [], [], [], [], [], [25], [], [], [], [], []]) (H := []) hmix (by kernel_rfl) (by decide +kernel) (by kernel_rfl) ?_
    | refine k_fn c_told ?_)
    · repeat' (first
    | simp (implicitDefEqProofs := false) only [push_cast, reduceIte, reduceCtorEq, Nat.reduceAdd, Nat.reduceSub, Nat.reduceEqDiff, Nat.reduceLT, Nat.reduceLeDiff, Nat.reduceBEq, Nat.reduceMul, Int.reduceLT, Int.reduceLE, Int.reduceEq, Int.reduceToNat, Int.reduceMul, Int.reduceNeg, Go.Proofs.Try.f8, List.length_map, c1, c2, c3, hT, ap_lo, st_lo, st_ne, st_eq, len_st, st_st, sst, at_set, at_set0, at_set2, at_set20, sst2, List.replicate_succ, List.drop_zero]
    | refine Sp2.f ?_ ?_
    | refine Spl.f ?_ ?_ <;> intro hb
    | refine rq_mk rfl (fun b hb => ?_)
    | refine r_draw (U := [[], [], [], [], [], [], [], [], []]) (H := []) hmix (by kernel_rfl) (by decide +kernel) (by kernel_rfl) ?_
    | refine r_draw (U := [[], [], [], [], [], [], [], [], [], [], [], [], [], [], [], [], [], [], [], [], [], [], [], [], [], [], [], [25], [], [], [], [], []]) (H := []) hmix (by kernel_rfl) (by decide +kernel) (by kernel_rfl) ?_
    | refine k_fn c_told ?_)

end Go.Abs
