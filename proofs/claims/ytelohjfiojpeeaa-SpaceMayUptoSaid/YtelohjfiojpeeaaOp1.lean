/- Op1: a part of the proofs about the tuple space (layer 8). -/
import Derived.Test.YtelohjfiojpeeaaTu
set_option linter.all false
set_option maxRecDepth 100000
set_option maxHeartbeats 0
namespace Go.Abs
open Go
open Go.Proofs.Try (prog)
/-! ### requests -/
structure Req where
  Client : Int
  Seq : Int
  Kind : Int
  P : List Fld
  T : List Fld
  Lease : Int
def eQ (x : Req) : AV := .agg 39 [.int .i64 x.Client, .int .i64 x.Seq, .int .i64 x.Kind, eFs x.P, eFs x.T, .int .i64 x.Lease]
theorem eQ_wk (x : Req) : wk prog 6 39 (eQ x) = eQ x := by simp [eQ, eFs, wk_aggE, wkAgg_struct, wk_int, wk_list, sh_39, fl_39]
theorem eQ_ty (x : Req) : tyB prog (eQ x) 39 = true := by simp [eQ, tyB]
theorem eQ_pl (x : Req) : plainAV (eQ x) = true := rfl
theorem eFs_dat' (l : List Fld) : dat (eFs l) = true := eFs_dat l
theorem eQ_dat (x : Req) : dat (eQ x) = true := by simp [eQ, dat_agg, datL_cons, datL_nil, dat_int, eFs_dat']

def opIn (k m : Int) : Bool := decide (1 ≤ k) && decide (k ≤ 8) && (bits .and .i64 (m.fdiv (2 ^ (min (IntKind.wrap .u64 k).toNat IntKind.i64.bits))) 1 == 1)
theorem c_opIn (k m : Int) : Fn prog 66 [.int .i64 k, .int .i64 m] (.bool (opIn k m)) := by
  refine run_66 rfl fun h => ?_
  repeat' (first
    | simp (implicitDefEqProofs := false) only [env0, List.map_cons, List.map_nil, List.length_cons, List.length_nil, List.take_succ_cons, List.take_zero, List.toList_toArray, r_end, r_seq, r_block, r_region, r_loop, r_cond, r_cond_b, r_bo_t, r_bo_f, r_code_ret, r_code_ex, r_blk_ret, r_blk, r_blk_ex, r_cut, r_op, r_nil, r_skip, r_label, r_exit, r_ret, r_guard, r_g_undef, r_g_b, r_bg_tt, r_bg_ff, r_bg_tf, r_bg_ft, o_assign, o_move, o_pick, rp_b, bp_t, bp_f, bp_b, o_bin, rb_f, rb_eql, rb_neq, isNil_int, isNil_tmp, isNil_bool, isNil_str, isNil_slice, o_load, o_store, o_nilCheck, o_unOp, o_convert, o_extract, o_index, o_indexAddr, o_build, o_fieldAddr, o_field, o_alloc, o_box, rm, rh_new, rh_ret, rh_rd, rhd_some, o_buildSlice, o_makeSlice, o_append, o_len, o_clear, o_min, o_max, o_slice, o_makeFunc, rw_t, o_call, rf_fn, ra_t, d_nil, d_op, d_guard, dg_undef, dg_b, bd_tt, bd_ff, bd_tf, bd_ft, dx, dw_t, dv, tcOf_wr, tcOf_all, ap_wr, ap_all, clear_nil, clear_cons, clr1_some, ds_ret, ds_rd, dd_some, dm_t, do_move, do_assign, do_pick, dp_b, bq_t, bq_f, bq_b, do_load, do_store, do_nilCheck, do_unOp, do_convert, do_extract, do_index, do_indexAddr, do_build, do_fieldAddr, do_field, do_bin, do_slice, do_len, do_clear, do_alloc, do_box, do_buildSlice, do_makeSlice, do_append, do_call, df_fn, da_t, mkO, makes, holeO, apartB, disjB, memB, isE, Tc.isNone, ev, evs, constAV, lk, lkO_some, putD, put, rs_ret, rs_rd, rd_some, wrAll, gslot_0, gslot_succ, pairs, stLoad, stStore, stFieldAddr, stField, stIndexAddr, stIndex, intBin, stBin, stUn, stConv, stLen, stClear, stMin, stBuild, stBuildSlice, stMakeSlice, stNilCheck, stSlice, stAppendTo, stAppend, stBuiltin, stExtract, liveB, getE, getP, setE, setP, fillAV, lenAV, bnd, pIn, isNilB, winGet, nilEq, isSlice, isPtr, ty_int, ty_bool, ty_str, ty_agg, ty_list, ty_win, ty_ref, ty_eref, ty_nilptr, ty_fn, ty_nilfn, ty_nils, pl_int, pl_bool, pl_str, pl_agg, pl_list, pl_win, pl_ref, pl_eref, pl_nilptr, pl_fn, pl_nilfn, pl_nils, wk_int, wk_bool, wk_str, wk_list, wk_win, wk_ref, wk_eref, wk_nilptr, wk_fn, wk_nilfn, wk_nils, wkNil_slice, wk_aggE, wkAgg_struct, wkAgg_arr, List.zipWith_cons_cons, List.zipWith_nil_left, argsOK, wks, List.all_cons, List.all_nil, List.nil_append, List.append_nil, List.cons_append, AEx.fin, get_at0, get_at, set_at0, set_at, len_app, List.append_assoc, Nat.add_assoc, ne_eq, not_false_eq_true, not_true_eq_false, reduceIte, if_true, if_false, reduceCtorEq, Nat.reduceAdd, Nat.reduceSub, Nat.reduceEqDiff, Nat.reduceLT, Nat.reduceLeDiff, Nat.reduceBEq, Nat.reduceMul, Int.reduceLT, Int.reduceLE, Int.reduceEq, Int.reduceToNat, Int.reduceMul, Int.reduceNeg, Nat.add_zero, Nat.zero_add, or_true, true_or, or_false, false_or, and_true, true_and, and_false, false_and, and_self, Bool.and_true, Bool.true_and, Bool.and_false, Bool.false_and, Bool.not_true, Bool.not_false, Bool.or_true, Bool.true_or, Bool.or_false, Bool.false_or, Bool.false_eq_true, Bool.true_eq_false, decide_true, decide_false, decide_eq_true_eq, beq_self_eq_true, Nat.add_eq_left, Nat.left_eq_add, Nat.add_left_cancel_iff, List.replicate_zero, List.drop_nil, List.getElem?_cons_zero, List.getElem?_cons_succ, List.set_cons_zero, List.set_cons_succ, Option.map_some, Option.map_none, Option.isNone_none, Option.isNone_some, Option.isSome_none, Option.isSome_some, sh_3, ok_3, zo_3, za_3, ce_3, ro_3, sh_4, ok_4, zo_4, za_4, ce_4, ro_4, sh_47, ok_47, zo_47, za_47, ce_47, ro_47, bodyOf, Option.getD_some, Go.Proofs.Try.f66, fin_tmp, fin_cell, fk_tmp, fk_nil, fk_ct, ck_rd, ck_some, ck_ret, cell_rd, cell_some, cell_ret, res_int, res_bool, take_self, take_app, lq_normal, lq_exit, lq_ret]
    | refine bg_yes (fun hb => ?_) (fun hb => ?_)
    | refine bg_no (fun hb => ?_) (fun hb => ?_)
    | refine bo_mk (fun hb => ?_) (fun hb => ?_)
    | refine bp_mk (fun hb => ?_) (fun hb => ?_)
    | refine bd_yes (fun hb => ?_) (fun hb => ?_)
    | refine bd_no (fun hb => ?_) (fun hb => ?_)
    | refine bq_mk (fun hb => ?_) (fun hb => ?_)
    | refine rs_no ?_ ?_
    | refine rs_yes ?_ ?_
    | refine rh_yes ?_ ?_
    | refine ds_no ?_ ?_
    | refine ds_yes ?_ ?_
    | refine dw_mk ?_ ?_
    | refine rs_ite (fun hb => ?_) (fun hb => ?_)
    | refine rh_ite (fun hb => ?_) (fun hb => ?_)
    | refine ds_ite (fun hb => ?_) (fun hb => ?_)
    | refine rq_mk rfl (fun b hb => ?_))
  · have : 1 ≤ k := by simpa using ‹decide (1 ≤ k) = true›
    have : k ≤ 8 := by simpa using ‹decide (k ≤ 8) = true›
    rw [IntWalk.u64_in _ (by omega)]
    omega
  · simp_all [opIn]
  · have : ¬ k ≤ 8 := by simpa using ‹decide (k ≤ 8) = false›
    simp [opIn, this]
  · have : ¬ 1 ≤ k := by simpa using ‹decide (1 ≤ k) = false›
    simp [opIn, this]
def readsK (k : Int) : Bool := opIn k 252
def writesK (k : Int) : Bool := opIn k 234
def putsK (k : Int) : Bool := opIn k 194
theorem c_Reads (k : Int) : Fn prog 68 [.int .i64 k] (.bool (readsK k)) := by
  refine run_68 rfl fun h => ?_
  repeat' (first
    | simp (implicitDefEqProofs := false) only [env0, List.map_cons, List.map_nil, List.length_cons, List.length_nil, List.take_succ_cons, List.take_zero, List.toList_toArray, r_end, r_seq, r_block, r_region, r_loop, r_cond, r_cond_b, r_bo_t, r_bo_f, r_code_ret, r_code_ex, r_blk_ret, r_blk, r_blk_ex, r_cut, r_op, r_nil, r_skip, r_label, r_exit, r_ret, r_guard, r_g_undef, r_g_b, r_bg_tt, r_bg_ff, r_bg_tf, r_bg_ft, o_assign, o_move, o_pick, rp_b, bp_t, bp_f, bp_b, o_bin, rb_f, rb_eql, rb_neq, isNil_int, isNil_tmp, isNil_bool, isNil_str, isNil_slice, o_load, o_store, o_nilCheck, o_unOp, o_convert, o_extract, o_index, o_indexAddr, o_build, o_fieldAddr, o_field, o_alloc, o_box, rm, rh_new, rh_ret, rh_rd, rhd_some, o_buildSlice, o_makeSlice, o_append, o_len, o_clear, o_min, o_max, o_slice, o_makeFunc, rw_t, o_call, rf_fn, ra_t, d_nil, d_op, d_guard, dg_undef, dg_b, bd_tt, bd_ff, bd_tf, bd_ft, dx, dw_t, dv, tcOf_wr, tcOf_all, ap_wr, ap_all, clear_nil, clear_cons, clr1_some, ds_ret, ds_rd, dd_some, dm_t, do_move, do_assign, do_pick, dp_b, bq_t, bq_f, bq_b, do_load, do_store, do_nilCheck, do_unOp, do_convert, do_extract, do_index, do_indexAddr, do_build, do_fieldAddr, do_field, do_bin, do_slice, do_len, do_clear, do_alloc, do_box, do_buildSlice, do_makeSlice, do_append, do_call, df_fn, da_t, mkO, makes, holeO, apartB, disjB, memB, isE, Tc.isNone, ev, evs, constAV, lk, lkO_some, putD, put, rs_ret, rs_rd, rd_some, wrAll, gslot_0, gslot_succ, pairs, stLoad, stStore, stFieldAddr, stField, stIndexAddr, stIndex, intBin, stBin, stUn, stConv, stLen, stClear, stMin, stBuild, stBuildSlice, stMakeSlice, stNilCheck, stSlice, stAppendTo, stAppend, stBuiltin, stExtract, liveB, getE, getP, setE, setP, fillAV, lenAV, bnd, pIn, isNilB, winGet, nilEq, isSlice, isPtr, ty_int, ty_bool, ty_str, ty_agg, ty_list, ty_win, ty_ref, ty_eref, ty_nilptr, ty_fn, ty_nilfn, ty_nils, pl_int, pl_bool, pl_str, pl_agg, pl_list, pl_win, pl_ref, pl_eref, pl_nilptr, pl_fn, pl_nilfn, pl_nils, wk_int, wk_bool, wk_str, wk_list, wk_win, wk_ref, wk_eref, wk_nilptr, wk_fn, wk_nilfn, wk_nils, wkNil_slice, wk_aggE, wkAgg_struct, wkAgg_arr, List.zipWith_cons_cons, List.zipWith_nil_left, argsOK, wks, List.all_cons, List.all_nil, List.nil_append, List.append_nil, List.cons_append, AEx.fin, get_at0, get_at, set_at0, set_at, len_app, List.append_assoc, Nat.add_assoc, ne_eq, not_false_eq_true, not_true_eq_false, reduceIte, if_true, if_false, reduceCtorEq, Nat.reduceAdd, Nat.reduceSub, Nat.reduceEqDiff, Nat.reduceLT, Nat.reduceLeDiff, Nat.reduceBEq, Nat.reduceMul, Int.reduceLT, Int.reduceLE, Int.reduceEq, Int.reduceToNat, Int.reduceMul, Int.reduceNeg, Nat.add_zero, Nat.zero_add, or_true, true_or, or_false, false_or, and_true, true_and, and_false, false_and, and_self, Bool.and_true, Bool.true_and, Bool.and_false, Bool.false_and, Bool.not_true, Bool.not_false, Bool.or_true, Bool.true_or, Bool.or_false, Bool.false_or, Bool.false_eq_true, Bool.true_eq_false, decide_true, decide_false, decide_eq_true_eq, beq_self_eq_true, Nat.add_eq_left, Nat.left_eq_add, Nat.add_left_cancel_iff, List.replicate_zero, List.drop_nil, List.getElem?_cons_zero, List.getElem?_cons_succ, List.set_cons_zero, List.set_cons_succ, Option.map_some, Option.map_none, Option.isNone_none, Option.isNone_some, Option.isSome_none, Option.isSome_some, sh_3, ok_3, zo_3, za_3, ce_3, ro_3, sh_4, ok_4, zo_4, za_4, ce_4, ro_4, bodyOf, Option.getD_some, Go.Proofs.Try.f68, fin_tmp, fin_cell, fk_tmp, fk_nil, fk_ct, ck_rd, ck_some, ck_ret, cell_rd, cell_some, cell_ret, res_int, res_bool, take_self, take_app, lq_normal, lq_exit, lq_ret]
    | refine bg_yes (fun hb => ?_) (fun hb => ?_)
    | refine bg_no (fun hb => ?_) (fun hb => ?_)
    | refine bo_mk (fun hb => ?_) (fun hb => ?_)
    | refine bp_mk (fun hb => ?_) (fun hb => ?_)
    | refine bd_yes (fun hb => ?_) (fun hb => ?_)
    | refine bd_no (fun hb => ?_) (fun hb => ?_)
    | refine bq_mk (fun hb => ?_) (fun hb => ?_)
    | refine rs_no ?_ ?_
    | refine rs_yes ?_ ?_
    | refine rh_yes ?_ ?_
    | refine ds_no ?_ ?_
    | refine ds_yes ?_ ?_
    | refine dw_mk ?_ ?_
    | refine rs_ite (fun hb => ?_) (fun hb => ?_)
    | refine rh_ite (fun hb => ?_) (fun hb => ?_)
    | refine ds_ite (fun hb => ?_) (fun hb => ?_)
    | refine rq_mk rfl (fun b hb => ?_)
    | refine k_fn (c_opIn k _) ?_)
  all_goals rfl
theorem c_Writes (k : Int) : Fn prog 70 [.int .i64 k] (.bool (writesK k)) := by
  refine run_70 rfl fun h => ?_
  repeat' (first
    | simp (implicitDefEqProofs := false) only [env0, List.map_cons, List.map_nil, List.length_cons, List.length_nil, List.take_succ_cons, List.take_zero, List.toList_toArray, r_end, r_seq, r_block, r_region, r_loop, r_cond, r_cond_b, r_bo_t, r_bo_f, r_code_ret, r_code_ex, r_blk_ret, r_blk, r_blk_ex, r_cut, r_op, r_nil, r_skip, r_label, r_exit, r_ret, r_guard, r_g_undef, r_g_b, r_bg_tt, r_bg_ff, r_bg_tf, r_bg_ft, o_assign, o_move, o_pick, rp_b, bp_t, bp_f, bp_b, o_bin, rb_f, rb_eql, rb_neq, isNil_int, isNil_tmp, isNil_bool, isNil_str, isNil_slice, o_load, o_store, o_nilCheck, o_unOp, o_convert, o_extract, o_index, o_indexAddr, o_build, o_fieldAddr, o_field, o_alloc, o_box, rm, rh_new, rh_ret, rh_rd, rhd_some, o_buildSlice, o_makeSlice, o_append, o_len, o_clear, o_min, o_max, o_slice, o_makeFunc, rw_t, o_call, rf_fn, ra_t, d_nil, d_op, d_guard, dg_undef, dg_b, bd_tt, bd_ff, bd_tf, bd_ft, dx, dw_t, dv, tcOf_wr, tcOf_all, ap_wr, ap_all, clear_nil, clear_cons, clr1_some, ds_ret, ds_rd, dd_some, dm_t, do_move, do_assign, do_pick, dp_b, bq_t, bq_f, bq_b, do_load, do_store, do_nilCheck, do_unOp, do_convert, do_extract, do_index, do_indexAddr, do_build, do_fieldAddr, do_field, do_bin, do_slice, do_len, do_clear, do_alloc, do_box, do_buildSlice, do_makeSlice, do_append, do_call, df_fn, da_t, mkO, makes, holeO, apartB, disjB, memB, isE, Tc.isNone, ev, evs, constAV, lk, lkO_some, putD, put, rs_ret, rs_rd, rd_some, wrAll, gslot_0, gslot_succ, pairs, stLoad, stStore, stFieldAddr, stField, stIndexAddr, stIndex, intBin, stBin, stUn, stConv, stLen, stClear, stMin, stBuild, stBuildSlice, stMakeSlice, stNilCheck, stSlice, stAppendTo, stAppend, stBuiltin, stExtract, liveB, getE, getP, setE, setP, fillAV, lenAV, bnd, pIn, isNilB, winGet, nilEq, isSlice, isPtr, ty_int, ty_bool, ty_str, ty_agg, ty_list, ty_win, ty_ref, ty_eref, ty_nilptr, ty_fn, ty_nilfn, ty_nils, pl_int, pl_bool, pl_str, pl_agg, pl_list, pl_win, pl_ref, pl_eref, pl_nilptr, pl_fn, pl_nilfn, pl_nils, wk_int, wk_bool, wk_str, wk_list, wk_win, wk_ref, wk_eref, wk_nilptr, wk_fn, wk_nilfn, wk_nils, wkNil_slice, wk_aggE, wkAgg_struct, wkAgg_arr, List.zipWith_cons_cons, List.zipWith_nil_left, argsOK, wks, List.all_cons, List.all_nil, List.nil_append, List.append_nil, List.cons_append, AEx.fin, get_at0, get_at, set_at0, set_at, len_app, List.append_assoc, Nat.add_assoc, ne_eq, not_false_eq_true, not_true_eq_false, reduceIte, if_true, if_false, reduceCtorEq, Nat.reduceAdd, Nat.reduceSub, Nat.reduceEqDiff, Nat.reduceLT, Nat.reduceLeDiff, Nat.reduceBEq, Nat.reduceMul, Int.reduceLT, Int.reduceLE, Int.reduceEq, Int.reduceToNat, Int.reduceMul, Int.reduceNeg, Nat.add_zero, Nat.zero_add, or_true, true_or, or_false, false_or, and_true, true_and, and_false, false_and, and_self, Bool.and_true, Bool.true_and, Bool.and_false, Bool.false_and, Bool.not_true, Bool.not_false, Bool.or_true, Bool.true_or, Bool.or_false, Bool.false_or, Bool.false_eq_true, Bool.true_eq_false, decide_true, decide_false, decide_eq_true_eq, beq_self_eq_true, Nat.add_eq_left, Nat.left_eq_add, Nat.add_left_cancel_iff, List.replicate_zero, List.drop_nil, List.getElem?_cons_zero, List.getElem?_cons_succ, List.set_cons_zero, List.set_cons_succ, Option.map_some, Option.map_none, Option.isNone_none, Option.isNone_some, Option.isSome_none, Option.isSome_some, sh_3, ok_3, zo_3, za_3, ce_3, ro_3, sh_4, ok_4, zo_4, za_4, ce_4, ro_4, bodyOf, Option.getD_some, Go.Proofs.Try.f70, fin_tmp, fin_cell, fk_tmp, fk_nil, fk_ct, ck_rd, ck_some, ck_ret, cell_rd, cell_some, cell_ret, res_int, res_bool, take_self, take_app, lq_normal, lq_exit, lq_ret]
    | refine bg_yes (fun hb => ?_) (fun hb => ?_)
    | refine bg_no (fun hb => ?_) (fun hb => ?_)
    | refine bo_mk (fun hb => ?_) (fun hb => ?_)
    | refine bp_mk (fun hb => ?_) (fun hb => ?_)
    | refine bd_yes (fun hb => ?_) (fun hb => ?_)
    | refine bd_no (fun hb => ?_) (fun hb => ?_)
    | refine bq_mk (fun hb => ?_) (fun hb => ?_)
    | refine rs_no ?_ ?_
    | refine rs_yes ?_ ?_
    | refine rh_yes ?_ ?_
    | refine ds_no ?_ ?_
    | refine ds_yes ?_ ?_
    | refine dw_mk ?_ ?_
    | refine rs_ite (fun hb => ?_) (fun hb => ?_)
    | refine rh_ite (fun hb => ?_) (fun hb => ?_)
    | refine ds_ite (fun hb => ?_) (fun hb => ?_)
    | refine rq_mk rfl (fun b hb => ?_)
    | refine k_fn (c_opIn k _) ?_)
  all_goals rfl

structure Req.Small (x : Req) : Prop where
  P : x.P.length ≤ 4294967296
  T : x.T.length ≤ 4294967296

def mayQ (x : Req) : Bool := decide (0 ≤ x.Client ∧ x.Client < 4 ∧ 1 ≤ x.Seq ∧ x.Seq ≤ 1073741824 ∧ 1 ≤ x.Kind ∧ x.Kind ≤ 8) &&
  ((if putsK x.Kind = true then mayT x.T && decide (0 ≤ x.Lease ∧ x.Lease ≤ 1099511627776) else decide (x.T = []) && decide (x.Lease = 0)) &&
   (if readsK x.Kind = true then mayP x.P else decide (x.P = [])))
theorem len_nil {α : Type} (l : List α) : ((l.length : Int) == 0) = decide (l = []) := by cases l <;> simp; omega
theorem c_operMay (x : Req) (hx : x.Small) : Fn prog 36 [eQ x] (.bool (mayQ x)) := by
  refine run_36 rfl fun h => ?_
  repeat' (first
    | simp (implicitDefEqProofs := false) only [env0, List.map_cons, List.map_nil, List.length_cons, List.length_nil, List.take_succ_cons, List.take_zero, List.toList_toArray, r_end, r_seq, r_block, r_region, r_loop, r_cond, r_cond_b, r_bo_t, r_bo_f, r_code_ret, r_code_ex, r_blk_ret, r_blk, r_blk_ex, r_cut, r_op, r_nil, r_skip, r_label, r_exit, r_ret, r_guard, r_g_undef, r_g_b, r_bg_tt, r_bg_ff, r_bg_tf, r_bg_ft, o_assign, o_move, o_pick, rp_b, bp_t, bp_f, bp_b, o_bin, rb_f, rb_eql, rb_neq, isNil_int, isNil_tmp, isNil_bool, isNil_str, isNil_slice, o_load, o_store, o_nilCheck, o_unOp, o_convert, o_extract, o_index, o_indexAddr, o_build, o_fieldAddr, o_field, o_alloc, o_box, rm, rh_new, rh_ret, rh_rd, rhd_some, o_buildSlice, o_makeSlice, o_append, o_len, o_clear, o_min, o_max, o_slice, o_makeFunc, rw_t, o_call, rf_fn, ra_t, d_nil, d_op, d_guard, dg_undef, dg_b, bd_tt, bd_ff, bd_tf, bd_ft, dx, dw_t, dv, tcOf_wr, tcOf_all, ap_wr, ap_all, clear_nil, clear_cons, clr1_some, ds_ret, ds_rd, dd_some, dm_t, do_move, do_assign, do_pick, dp_b, bq_t, bq_f, bq_b, do_load, do_store, do_nilCheck, do_unOp, do_convert, do_extract, do_index, do_indexAddr, do_build, do_fieldAddr, do_field, do_bin, do_slice, do_len, do_clear, do_alloc, do_box, do_buildSlice, do_makeSlice, do_append, do_call, df_fn, da_t, mkO, makes, holeO, apartB, disjB, memB, isE, Tc.isNone, ev, evs, constAV, lk, lkO_some, putD, put, rs_ret, rs_rd, rd_some, wrAll, gslot_0, gslot_succ, pairs, stLoad, stStore, stFieldAddr, stField, stIndexAddr, stIndex, intBin, stBin, stUn, stConv, stLen, stClear, stMin, stBuild, stBuildSlice, stMakeSlice, stNilCheck, stSlice, stAppendTo, stAppend, stBuiltin, stExtract, liveB, getE, getP, setE, setP, fillAV, lenAV, bnd, pIn, isNilB, winGet, nilEq, isSlice, isPtr, ty_int, ty_bool, ty_str, ty_agg, ty_list, ty_win, ty_ref, ty_eref, ty_nilptr, ty_fn, ty_nilfn, ty_nils, pl_int, pl_bool, pl_str, pl_agg, pl_list, pl_win, pl_ref, pl_eref, pl_nilptr, pl_fn, pl_nilfn, pl_nils, wk_int, wk_bool, wk_str, wk_list, wk_win, wk_ref, wk_eref, wk_nilptr, wk_fn, wk_nilfn, wk_nils, wkNil_slice, wk_aggE, wkAgg_struct, wkAgg_arr, List.zipWith_cons_cons, List.zipWith_nil_left, argsOK, wks, List.all_cons, List.all_nil, List.nil_append, List.append_nil, List.cons_append, AEx.fin, get_at0, get_at, set_at0, set_at, len_app, List.append_assoc, Nat.add_assoc, ne_eq, not_false_eq_true, not_true_eq_false, reduceIte, if_true, if_false, reduceCtorEq, Nat.reduceAdd, Nat.reduceSub, Nat.reduceEqDiff, Nat.reduceLT, Nat.reduceLeDiff, Nat.reduceBEq, Nat.reduceMul, Int.reduceLT, Int.reduceLE, Int.reduceEq, Int.reduceToNat, Int.reduceMul, Int.reduceNeg, Nat.add_zero, Nat.zero_add, or_true, true_or, or_false, false_or, and_true, true_and, and_false, false_and, and_self, Bool.and_true, Bool.true_and, Bool.and_false, Bool.false_and, Bool.not_true, Bool.not_false, Bool.or_true, Bool.true_or, Bool.or_false, Bool.false_or, Bool.false_eq_true, Bool.true_eq_false, decide_true, decide_false, decide_eq_true_eq, beq_self_eq_true, Nat.add_eq_left, Nat.left_eq_add, Nat.add_left_cancel_iff, List.replicate_zero, List.drop_nil, List.getElem?_cons_zero, List.getElem?_cons_succ, List.set_cons_zero, List.set_cons_succ, Option.map_some, Option.map_none, Option.isNone_none, Option.isNone_some, Option.isSome_none, Option.isSome_some, sh_2, ok_2, zo_2, za_2, ce_2, ro_2, sh_3, ok_3, zo_3, za_3, ce_3, ro_3, sh_4, ok_4, zo_4, za_4, ce_4, ro_4, sh_9, ok_9, zo_9, za_9, ce_9, ro_9, sh_23, ok_23, zo_23, za_23, ce_23, ro_23, sh_25, ok_25, zo_25, za_25, ce_25, ro_25, fl_25, po_25, sh_39, ok_39, zo_39, za_39, ce_39, ro_39, fl_39, po_39, bodyOf, Option.getD_some, Go.Proofs.Try.f36, fin_tmp, fin_cell, fk_tmp, fk_nil, fk_ct, ck_rd, ck_some, ck_ret, cell_rd, cell_some, cell_ret, res_int, res_bool, take_self, take_app, lq_normal, lq_exit, lq_ret, eQ, eFs, List.length_map, len_nil]
    | refine bg_yes (fun hb => ?_) (fun hb => ?_)
    | refine bg_no (fun hb => ?_) (fun hb => ?_)
    | refine bo_mk (fun hb => ?_) (fun hb => ?_)
    | refine bp_mk (fun hb => ?_) (fun hb => ?_)
    | refine bd_yes (fun hb => ?_) (fun hb => ?_)
    | refine bd_no (fun hb => ?_) (fun hb => ?_)
    | refine bq_mk (fun hb => ?_) (fun hb => ?_)
    | refine rs_no ?_ ?_
    | refine rs_yes ?_ ?_
    | refine rh_yes ?_ ?_
    | refine ds_no ?_ ?_
    | refine ds_yes ?_ ?_
    | refine dw_mk ?_ ?_
    | refine rs_ite (fun hb => ?_) (fun hb => ?_)
    | refine rh_ite (fun hb => ?_) (fun hb => ?_)
    | refine ds_ite (fun hb => ?_) (fun hb => ?_)
    | refine rq_mk rfl (fun b hb => ?_)
    | refine k_fn (c_opIn _ _) ?_
    | refine k_fn (c_tupleMay x.T hx.T) ?_
    | refine k_fn (c_Reads _) ?_
    | refine k_fn (c_MayTemplate x.P hx.P) ?_)
  all_goals simp only [decide_eq_true_eq, decide_eq_false_iff_not, Int.not_lt, Int.not_le] at *
  all_goals first
    | (have e : ¬ (0 ≤ x.Client ∧ x.Client < 4 ∧ 1 ≤ x.Seq ∧ x.Seq ≤ 1073741824 ∧ 1 ≤ x.Kind ∧ x.Kind ≤ 8) := by omega
       simp only [mayQ, e, decide_false, Bool.false_and]; done)
    | (have e : 0 ≤ x.Client ∧ x.Client < 4 ∧ 1 ≤ x.Seq ∧ x.Seq ≤ 1073741824 ∧ 1 ≤ x.Kind ∧ x.Kind ≤ 8 := by omega
       simp only [mayQ, decide_eq_true e, Bool.true_and, readsK, putsK])
  all_goals (have hT : mayT [] = false := rfl; have hP : mayP [] = false := rfl)
  all_goals simp only [readsK] at *
  all_goals first
    | grind
    | skip

end Go.Abs
