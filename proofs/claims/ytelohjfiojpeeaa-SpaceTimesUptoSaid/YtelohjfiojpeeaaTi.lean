/- Ti: a part of the proofs about the tuple space (layer 8). -/
import Derived.Test.YtelohjfiojpeeaaLf
import Derived.Test.YtelohjfiojpeeaaSm
set_option linter.all false
set_option maxRecDepth 100000
set_option maxHeartbeats 0
namespace Go.Abs
open Go
open Go.Proofs.Try (prog)
/-! ### SpaceTimes -/
def l1 (a : Rpl) : List Rpl := [a, ⟨1, 0, 0, [], false⟩, ⟨2, 0, 0, [], false⟩, ⟨3, 0, 0, [], false⟩]
def timeA (t : List Fld) (x : Int) : Spc := ⟨x, [⟨0, 0, t⟩], [], 15, 15, l1 ⟨0, 1, 1, [], false⟩⟩
def timeC (t : List Fld) (x : Int) : Spc := ⟨x, [], [], 15, 15, l1 ⟨0, 2, 2, t, false⟩⟩
theorem time1 {t : List Fld} {x : Int} (ht : mayT t = true) (hx : 0 ≤ x ∧ x ≤ 2000) : doS (newS 15 15) x ⟨0, 1, 1, [], t, 0⟩ = (timeA t x, [⟨0, 1, 1, [], false⟩]) := by
  have hp : putsK 1 = true := by kernel_rfl
  have hr : readsK 1 = false := by kernel_rfl
  have hok : doOK (newS 15 15) x ⟨0, 1, 1, [], t, 0⟩ = true := by
    have hq : mayQ ⟨0, 1, 1, [], t, 0⟩ = true := by
      simp only [mayQ, hp, hr, if_true, ht, Bool.true_and, if_false, Bool.false_eq_true]
      simp
    simp only [doOK, told4D, hq, Bool.true_and]
    show (decide ((0 : Int) ≤ x) && decide (x ≤ 1099511627776)) = true
    simp; omega
  have hd : ¬ denyS (aged (newS 15 15) x) ⟨0, 1, 1, [], t, 0⟩ = true := by
    have : denyS (aged (newS 15 15) x) ⟨0, 1, 1, [], t, 0⟩ = false := by
      show ((readsK 1 && bitOf (newS 15 15).Read 0) || (writesK 1 && bitOf (newS 15 15).Write 0)) = false
      kernel_rfl
    rw [this]; simp
  have hf : ¬ fullS (aged (newS 15 15) x) ⟨0, 1, 1, [], t, 0⟩ (-1) = true := by
    have : fullS (aged (newS 15 15) x) ⟨0, 1, 1, [], t, 0⟩ (-1) = false := rfl
    rw [this]; simp
  rw [doS, if_pos hok, if_neg (by show ¬ (1 : Int) < 0; omega), if_neg (by show ¬ (1 : Int) = 0; omega), doW, if_neg hd, if_pos rfl, bringS, if_neg hf]
  rfl
theorem timeA_may {t : List Fld} {x : Int} (ht : mayT t = true) (hx : 0 ≤ x ∧ x ≤ 2000) : mayS (timeA t x) = true := by
  have h1 : mayI ⟨0, 0, t⟩ x = true := by
    simp only [mayI, ht, Bool.and_true]
    rfl
  have h2 : mayH (timeA t x) = true := by
    have this : (15 : Int).fdiv 16 = 0 := by decide
    show (decide (0 ≤ x) && decide (x ≤ 1099511627776) && decide ((15 : Int).fdiv 16 = 0) && decide ((15 : Int).fdiv 16 = 0) && true && true) = true
    simp only [Bool.and_eq_true, decide_eq_true_eq]
    exact ⟨⟨⟨⟨⟨hx.1, by omega⟩, this⟩, this⟩, trivial⟩, trivial⟩
  have h3 : all2 mayL (l1 ⟨0, 1, 1, [], false⟩) [0, 1, 2, 3] = true := by kernel_rfl
  simp only [mayS, h2, Bool.true_and]
  show (([(⟨0, 0, t⟩ : Itm)].all fun y => mayI y x) && [0, 1, 2, 3].all (fun c => decide (cnt [(⟨0, 0, t⟩ : Itm)] c ≤ 24)) && ([] : List Wtr).all mayW && all2 mayL (l1 ⟨0, 1, 1, [], false⟩) [0, 1, 2, 3]) = true
  rw [h3]
  simp only [List.all_cons, List.all_nil, h1, Bool.and_true, Bool.true_and]
  have hc : ∀ c, cnt [(⟨0, 0, t⟩ : Itm)] c ≤ 24 := fun c => by have := cnt_len [(⟨0, 0, t⟩ : Itm)] c; simp at this; omega
  simp [hc]
theorem time2 {t : List Fld} {x y : Int} {r : Req} (hy : y < x ∨ 1099511627776 < y) : doS (timeA t x) y r = (timeA t x, []) := by
  rw [doS, if_neg]
  simp only [doOK, Bool.and_eq_true, decide_eq_true_eq]
  rintro ⟨⟨_, h1⟩, h2⟩
  have : x ≤ y := h1
  omega
theorem time4 {t : List Fld} {x : Int} (ht : mayT t = true) (hx : 0 ≤ x ∧ x ≤ 2000) : doS (timeA t x) x ⟨0, 2, 3, t, [], 0⟩ = (timeC t x, [⟨0, 2, 2, t, false⟩]) := by
  have hp : putsK 3 = false := by kernel_rfl
  have hr : readsK 3 = true := by kernel_rfl
  have hok : doOK (timeA t x) x ⟨0, 2, 3, t, [], 0⟩ = true := by
    have hq : mayQ ⟨0, 2, 3, t, [], 0⟩ = true := by
      simp only [mayQ, hp, hr, if_true, mayT_P ht, Bool.true_and, if_false, Bool.false_eq_true, Bool.and_true]
      simp
    simp only [doOK, timeA_may ht hx, hq, Bool.true_and]
    show (decide (x ≤ x) && decide (x ≤ 1099511627776)) = true
    simp; omega
  have hag : aged (timeA t x) x = timeA t x := rfl
  have hdn : ¬ denyS (timeA t x) ⟨0, 2, 3, t, [], 0⟩ = true := by
    have : denyS (timeA t x) ⟨0, 2, 3, t, [], 0⟩ = false := by
      show ((readsK 3 && bitOf 15 0) || (writesK 3 && bitOf 15 0)) = false
      kernel_rfl
    rw [this]; simp
  rw [doS, if_pos hok, if_neg (by show ¬ (2 : Int) < 1; omega), if_neg (by show ¬ (2 : Int) = 1; omega), hag, doW, if_neg hdn, if_neg (by show ¬ (3 : Int) = 1; omega), if_neg (by show ¬ (3 : Int) = 2; omega), if_pos rfl]
  have hfi : findS (timeA t x) t = 0 := by
    show fidx (fun y : Itm => matchT t y.T) [(⟨0, 0, t⟩ : Itm)] = 0
    simp [fidx, List.findIdx?_cons, matchT_self ht]
  rw [findW, if_pos (by show 0 ≤ findS (timeA t x) t; rw [hfi]; omega)]
  show (if true = true then { tellS (timeA t x) _ 2 ((timeA t x).Items.getD (findS (timeA t x) t).toNat ⟨0, 0, []⟩).T with Items := (timeA t x).Items.eraseIdx (findS (timeA t x) t).toNat } else _, _) = _
  rw [hfi]
  rfl
theorem timeA_small {t : List Fld} {x : Int} (ht : t.length ≤ 4294967296) : (timeA t x).Small :=
  ⟨⟨by simp [timeA], by simp [timeA, ht]⟩, ⟨by simp [timeA], by simp [timeA]⟩, ⟨by simp [timeA, l1], by simp [timeA, l1]⟩, rfl⟩
theorem sameT_refl (l : List Fld) : sameT l l = true := all2_refl fun x _ => same_refl x
theorem sameS_refl (s : Spc) : sameS s s = true := by
  have h1 : all2 smI s.Items s.Items = true := all2_refl fun x _ => by simp [smI, sameT_refl]
  have h2 : all2 smW s.Waiters s.Waiters = true := all2_refl fun x _ => by simp [smW, sameT_refl]
  have h3 : all2 smR s.Last s.Last = true := all2_refl fun x _ => by simp [smR, sameT_refl]
  simp [sameS, h1, h2, h3]
theorem c_SpaceTimes (t : List Fld) (a ahead : Int) (hl : t.length ≤ 4294967296) : Fn prog 10 [eFs t, .int .i64 a, .int .i64 ahead] (.bool true) := by
  refine run_10 rfl fun h => ?_
  obtain ⟨x, hx, hx0, hx1⟩ := mod_small a 1000 (by omega)
  obtain ⟨d, hd, hd0, hd1⟩ := mod_small ahead 50 (by omega)
  have w1 : IntKind.wrap .i64 (1 + d) = 1 + d := IntWalk.i64_in _ (by omega)
  have w2 : IntKind.wrap .i64 (x - (1 + d)) = x - (1 + d) := IntWalk.i64_in _ (by omega)
  have w3 : IntKind.wrap .i64 (1099511627776 + (1 + d)) = 1099511627776 + (1 + d) := IntWalk.i64_in _ (by omega)
  by_cases hm : may6 t 2 = true
  · have ht := may6_T hm
    have d1 := c_Do (newS 15 15) x ⟨0, 1, 1, [], t, 0⟩ (newS_small 15 15) ⟨by simp, hl⟩
    rw [time1 ht (by omega)] at d1
    have d2 := c_Do (timeA t x) (x - (1 + d)) ⟨0, 2, 3, t, [], 0⟩ (timeA_small hl) ⟨hl, by simp⟩
    rw [time2 (by omega)] at d2
    have d3 := c_Do (timeA t x) (1099511627776 + (1 + d)) ⟨0, 2, 3, t, [], 0⟩ (timeA_small hl) ⟨hl, by simp⟩
    rw [time2 (by omega)] at d3
    have d4 := c_Do (timeA t x) x ⟨0, 2, 3, t, [], 0⟩ (timeA_small hl) ⟨hl, by simp⟩
    rw [time4 ht (by omega)] at d4
    have hsm := c_sSame (timeA t x) (timeA t x) (timeA_small hl) (timeA_small hl)
    rw [sameS_refl] at hsm
    have gA : getP (eS (timeA t x)) [1] = some (.list 74 [eI ⟨0, 0, t⟩]) := rfl
    have gC : getP (eS (timeC t x)) [1] = some (.list 74 []) := rfl
    repeat' (first
    | simp (implicitDefEqProofs := false) only [env0, List.map_cons, List.map_nil, List.length_cons, List.length_nil, List.take_succ_cons, List.take_zero, List.toList_toArray, r_end, r_seq, r_block, r_region, r_loop, r_cond, r_cond_b, r_bo_t, r_bo_f, r_code_ret, r_code_ex, r_blk_ret, r_blk, r_blk_ex, r_cut, r_op, r_nil, r_skip, r_label, r_exit, r_ret, r_guard, r_g_undef, r_g_b, r_bg_tt, r_bg_ff, r_bg_tf, r_bg_ft, o_assign, o_move, o_pick, rp_b, bp_t, bp_f, bp_b, o_bin, rb_f, rb_eql, rb_neq, isNil_int, isNil_tmp, isNil_bool, isNil_str, isNil_slice, o_load, o_store, o_nilCheck, o_unOp, o_convert, o_extract, o_index, o_indexAddr, o_build, o_fieldAddr, o_field, o_alloc, o_box, rm, rh_new, rh_ret, rh_rd, rhd_some, o_buildSlice, o_makeSlice, o_append, o_len, o_clear, o_min, o_max, o_slice, o_makeFunc, rw_t, o_call, rf_fn, ra_t, d_nil, d_op, d_guard, dg_undef, dg_b, bd_tt, bd_ff, bd_tf, bd_ft, dx, dw_t, dv, tcOf_wr, tcOf_all, ap_wr, ap_all, clear_nil, clear_cons, clr1_some, ds_ret, ds_rd, dd_some, dm_t, do_move, do_assign, do_pick, dp_b, bq_t, bq_f, bq_b, do_load, do_store, do_nilCheck, do_unOp, do_convert, do_extract, do_index, do_indexAddr, do_build, do_fieldAddr, do_field, do_bin, do_slice, do_len, do_clear, do_alloc, do_box, do_buildSlice, do_makeSlice, do_append, do_call, df_fn, da_t, mkO, makes, holeO, apartB, disjB, memB, isE, Tc.isNone, ev, evs, constAV, lk, lkO_some, putD, put, rs_ret, rs_rd, rd_some, wrAll, gslot_0, gslot_succ, pairs, stLoad, stStore, stFieldAddr, stField, stIndexAddr, stIndex, intBin, stBin, stUn, stConv, stLen, stClear, stMin, stBuild, stBuildSlice, stMakeSlice, stNilCheck, stSlice, stAppendTo, stAppend, stBuiltin, stExtract, liveB, getE, getP, setE, setP, fillAV, lenAV, bnd, pIn, isNilB, winGet, nilEq, isSlice, isPtr, ty_int, ty_bool, ty_str, ty_agg, ty_list, ty_win, ty_ref, ty_eref, ty_nilptr, ty_fn, ty_nilfn, ty_nils, pl_int, pl_bool, pl_str, pl_agg, pl_list, pl_win, pl_ref, pl_eref, pl_nilptr, pl_fn, pl_nilfn, pl_nils, wk_int, wk_bool, wk_str, wk_list, wk_win, wk_ref, wk_eref, wk_nilptr, wk_fn, wk_nilfn, wk_nils, wkNil_slice, wk_aggE, wkAgg_struct, wkAgg_arr, List.zipWith_cons_cons, List.zipWith_nil_left, argsOK, wks, List.all_cons, List.all_nil, List.nil_append, List.append_nil, List.cons_append, AEx.fin, get_at0, get_at, set_at0, set_at, len_app, List.append_assoc, Nat.add_assoc, ne_eq, not_false_eq_true, not_true_eq_false, reduceIte, if_true, if_false, reduceCtorEq, Nat.reduceAdd, Nat.reduceSub, Nat.reduceEqDiff, Nat.reduceLT, Nat.reduceLeDiff, Nat.reduceBEq, Nat.reduceMul, Int.reduceLT, Int.reduceLE, Int.reduceEq, Int.reduceToNat, Int.reduceMul, Int.reduceNeg, Nat.add_zero, Nat.zero_add, or_true, true_or, or_false, false_or, and_true, true_and, and_false, false_and, and_self, Bool.and_true, Bool.true_and, Bool.and_false, Bool.false_and, Bool.not_true, Bool.not_false, Bool.or_true, Bool.true_or, Bool.or_false, Bool.false_or, Bool.false_eq_true, Bool.true_eq_false, decide_true, decide_false, decide_eq_true_eq, beq_self_eq_true, Nat.add_eq_left, Nat.left_eq_add, Nat.add_left_cancel_iff, List.replicate_zero, List.drop_nil, List.getElem?_cons_zero, List.getElem?_cons_succ, List.set_cons_zero, List.set_cons_succ, Option.map_some, Option.map_none, Option.isNone_none, Option.isNone_some, Option.isSome_none, Option.isSome_some, sh_2, ok_2, zo_2, za_2, ce_2, ro_2, sh_3, ok_3, zo_3, za_3, ce_3, ro_3, sh_4, ok_4, zo_4, za_4, ce_4, ro_4, sh_9, ok_9, zo_9, za_9, ce_9, ro_9, sh_23, ok_23, zo_23, za_23, ce_23, ro_23, sh_25, ok_25, zo_25, za_25, ce_25, ro_25, fl_25, po_25, sh_27, ok_27, zo_27, za_27, ce_27, ro_27, sh_28, ok_28, zo_28, za_28, ce_28, ro_28, sh_30, ok_30, zo_30, za_30, ce_30, ro_30, fl_30, po_30, sh_31, ok_31, zo_31, za_31, ce_31, ro_31, po_31, sh_33, ok_33, zo_33, za_33, ce_33, ro_33, fl_33, po_33, sh_34, ok_34, zo_34, za_34, ce_34, ro_34, sh_39, ok_39, zo_39, za_39, ce_39, ro_39, fl_39, po_39, sh_47, ok_47, zo_47, za_47, ce_47, ro_47, sh_50, ok_50, zo_50, za_50, ce_50, ro_50, fl_50, po_50, sh_74, ok_74, zo_74, za_74, ce_74, ro_74, fl_74, po_74, bodyOf, Option.getD_some, Go.Proofs.Try.f10, fin_tmp, fin_cell, fk_tmp, fk_nil, fk_ct, ck_rd, ck_some, ck_ret, cell_rd, cell_some, cell_ret, res_int, res_bool, take_self, take_app, lq_normal, lq_exit, lq_ret, hm, hx, hd, w1, w2, w3, gA, gC, eS_ty, eS_pl, eS_wk, eFs_ty, eFs_pl, eFs_wk, eRs, eR, cast1, cast0, cast2, Int.reduceBEq, Int.reduceBNe, bn1, bn2, bn3, bn4, List.append_eq, bt1, bt2, bt3, bt4, ap_lo, st_lo, st_ne, st_eq, len_st, st_st, sst, at_set, at_set0, at_set2, at_set20, sst2, List.replicate_succ, List.drop_zero]
    | refine bg_yes (fun hb => ?_) (fun hb => ?_)
    | refine bg_no (fun hb => ?_) (fun hb => ?_)
    | refine bo_mk (fun hb => ?_) (fun hb => ?_)
    | refine bp_mk (fun hb => ?_) (fun hb => ?_)
    | refine bd_yes (fun hb => ?_) (fun hb => ?_)
    | refine bd_no (fun hb => ?_) (fun hb => ?_)
    | refine bq_mk (fun hb => ?_) (fun hb => ?_)
    | refine rs_no ?_ ?_
    | refine rs_yes ?_ ?_
    | refine rh_yes ?_ ?_
    | refine ds_no ?_ ?_
    | refine ds_yes ?_ ?_
    | refine dw_mk ?_ ?_
    | refine rs_ite (fun hb => ?_) (fun hb => ?_)
    | refine rh_ite (fun hb => ?_) (fun hb => ?_)
    | refine ds_ite (fun hb => ?_) (fun hb => ?_)
    | refine rq_mk rfl (fun b hb => ?_)
    | refine k_fn (c_MayTuple6 t hl) ?_
    | refine k_fn (c_New 15 15) ?_
    | refine k_fn d1 ?_
    | refine k_fn d2 ?_
    | refine k_fn d3 ?_
    | refine k_fn d4 ?_
    | refine k_fn c_told ?_
    | refine k_fn hsm ?_)
  · have hm : may6 t 2 = false := by simpa using hm
    repeat' (first
    | simp (implicitDefEqProofs := false) only [env0, List.map_cons, List.map_nil, List.length_cons, List.length_nil, List.take_succ_cons, List.take_zero, List.toList_toArray, r_end, r_seq, r_block, r_region, r_loop, r_cond, r_cond_b, r_bo_t, r_bo_f, r_code_ret, r_code_ex, r_blk_ret, r_blk, r_blk_ex, r_cut, r_op, r_nil, r_skip, r_label, r_exit, r_ret, r_guard, r_g_undef, r_g_b, r_bg_tt, r_bg_ff, r_bg_tf, r_bg_ft, o_assign, o_move, o_pick, rp_b, bp_t, bp_f, bp_b, o_bin, rb_f, rb_eql, rb_neq, isNil_int, isNil_tmp, isNil_bool, isNil_str, isNil_slice, o_load, o_store, o_nilCheck, o_unOp, o_convert, o_extract, o_index, o_indexAddr, o_build, o_fieldAddr, o_field, o_alloc, o_box, rm, rh_new, rh_ret, rh_rd, rhd_some, o_buildSlice, o_makeSlice, o_append, o_len, o_clear, o_min, o_max, o_slice, o_makeFunc, rw_t, o_call, rf_fn, ra_t, d_nil, d_op, d_guard, dg_undef, dg_b, bd_tt, bd_ff, bd_tf, bd_ft, dx, dw_t, dv, tcOf_wr, tcOf_all, ap_wr, ap_all, clear_nil, clear_cons, clr1_some, ds_ret, ds_rd, dd_some, dm_t, do_move, do_assign, do_pick, dp_b, bq_t, bq_f, bq_b, do_load, do_store, do_nilCheck, do_unOp, do_convert, do_extract, do_index, do_indexAddr, do_build, do_fieldAddr, do_field, do_bin, do_slice, do_len, do_clear, do_alloc, do_box, do_buildSlice, do_makeSlice, do_append, do_call, df_fn, da_t, mkO, makes, holeO, apartB, disjB, memB, isE, Tc.isNone, ev, evs, constAV, lk, lkO_some, putD, put, rs_ret, rs_rd, rd_some, wrAll, gslot_0, gslot_succ, pairs, stLoad, stStore, stFieldAddr, stField, stIndexAddr, stIndex, intBin, stBin, stUn, stConv, stLen, stClear, stMin, stBuild, stBuildSlice, stMakeSlice, stNilCheck, stSlice, stAppendTo, stAppend, stBuiltin, stExtract, liveB, getE, getP, setE, setP, fillAV, lenAV, bnd, pIn, isNilB, winGet, nilEq, isSlice, isPtr, ty_int, ty_bool, ty_str, ty_agg, ty_list, ty_win, ty_ref, ty_eref, ty_nilptr, ty_fn, ty_nilfn, ty_nils, pl_int, pl_bool, pl_str, pl_agg, pl_list, pl_win, pl_ref, pl_eref, pl_nilptr, pl_fn, pl_nilfn, pl_nils, wk_int, wk_bool, wk_str, wk_list, wk_win, wk_ref, wk_eref, wk_nilptr, wk_fn, wk_nilfn, wk_nils, wkNil_slice, wk_aggE, wkAgg_struct, wkAgg_arr, List.zipWith_cons_cons, List.zipWith_nil_left, argsOK, wks, List.all_cons, List.all_nil, List.nil_append, List.append_nil, List.cons_append, AEx.fin, get_at0, get_at, set_at0, set_at, len_app, List.append_assoc, Nat.add_assoc, ne_eq, not_false_eq_true, not_true_eq_false, reduceIte, if_true, if_false, reduceCtorEq, Nat.reduceAdd, Nat.reduceSub, Nat.reduceEqDiff, Nat.reduceLT, Nat.reduceLeDiff, Nat.reduceBEq, Nat.reduceMul, Int.reduceLT, Int.reduceLE, Int.reduceEq, Int.reduceToNat, Int.reduceMul, Int.reduceNeg, Nat.add_zero, Nat.zero_add, or_true, true_or, or_false, false_or, and_true, true_and, and_false, false_and, and_self, Bool.and_true, Bool.true_and, Bool.and_false, Bool.false_and, Bool.not_true, Bool.not_false, Bool.or_true, Bool.true_or, Bool.or_false, Bool.false_or, Bool.false_eq_true, Bool.true_eq_false, decide_true, decide_false, decide_eq_true_eq, beq_self_eq_true, Nat.add_eq_left, Nat.left_eq_add, Nat.add_left_cancel_iff, List.replicate_zero, List.drop_nil, List.getElem?_cons_zero, List.getElem?_cons_succ, List.set_cons_zero, List.set_cons_succ, Option.map_some, Option.map_none, Option.isNone_none, Option.isNone_some, Option.isSome_none, Option.isSome_some, sh_2, ok_2, zo_2, za_2, ce_2, ro_2, sh_3, ok_3, zo_3, za_3, ce_3, ro_3, sh_4, ok_4, zo_4, za_4, ce_4, ro_4, sh_9, ok_9, zo_9, za_9, ce_9, ro_9, sh_23, ok_23, zo_23, za_23, ce_23, ro_23, sh_25, ok_25, zo_25, za_25, ce_25, ro_25, fl_25, po_25, sh_27, ok_27, zo_27, za_27, ce_27, ro_27, sh_28, ok_28, zo_28, za_28, ce_28, ro_28, sh_30, ok_30, zo_30, za_30, ce_30, ro_30, fl_30, po_30, sh_31, ok_31, zo_31, za_31, ce_31, ro_31, po_31, sh_33, ok_33, zo_33, za_33, ce_33, ro_33, fl_33, po_33, sh_34, ok_34, zo_34, za_34, ce_34, ro_34, sh_39, ok_39, zo_39, za_39, ce_39, ro_39, fl_39, po_39, sh_47, ok_47, zo_47, za_47, ce_47, ro_47, sh_50, ok_50, zo_50, za_50, ce_50, ro_50, fl_50, po_50, sh_74, ok_74, zo_74, za_74, ce_74, ro_74, fl_74, po_74, bodyOf, Option.getD_some, Go.Proofs.Try.f10, fin_tmp, fin_cell, fk_tmp, fk_nil, fk_ct, ck_rd, ck_some, ck_ret, cell_rd, cell_some, cell_ret, res_int, res_bool, take_self, take_app, lq_normal, lq_exit, lq_ret, hm, eFs_ty, eFs_pl, eFs_wk]
    | refine bg_yes (fun hb => ?_) (fun hb => ?_)
    | refine bg_no (fun hb => ?_) (fun hb => ?_)
    | refine bo_mk (fun hb => ?_) (fun hb => ?_)
    | refine bp_mk (fun hb => ?_) (fun hb => ?_)
    | refine bd_yes (fun hb => ?_) (fun hb => ?_)
    | refine bd_no (fun hb => ?_) (fun hb => ?_)
    | refine bq_mk (fun hb => ?_) (fun hb => ?_)
    | refine rs_no ?_ ?_
    | refine rs_yes ?_ ?_
    | refine rh_yes ?_ ?_
    | refine ds_no ?_ ?_
    | refine ds_yes ?_ ?_
    | refine dw_mk ?_ ?_
    | refine rs_ite (fun hb => ?_) (fun hb => ?_)
    | refine rh_ite (fun hb => ?_) (fun hb => ?_)
    | refine ds_ite (fun hb => ?_) (fun hb => ?_)
    | refine rq_mk rfl (fun b hb => ?_)
    | refine k_fn (c_MayTuple6 t hl) ?_
    | refine k_fn c_told ?_)

end Go.Abs
