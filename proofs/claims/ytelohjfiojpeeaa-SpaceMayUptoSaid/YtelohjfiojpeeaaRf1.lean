/- Rf1: a part of the proofs about the tuple space (layer 8). -/
import Derived.Test.YtelohjfiojpeeaaDz
set_option linter.all false
set_option maxRecDepth 100000
set_option maxHeartbeats 0
namespace Go.Abs
open Go
open Go.Proofs.Try (prog)
/-! ### the document's answer about fields -/
def ok6 (most : Int) (x : Fld) : Bool := decide (1 ≤ x.K) && decide (x.K ≤ most) && (x.K == 1 || x.N == 0) && (x.K == 2 || x.S == ⟨#[]⟩) && decide (x.S.size ≤ 40)
def may6 (l : List Fld) (most : Int) : Bool := decide (1 ≤ l.length) && decide (l.length ≤ 6) && l.all (ok6 most)
theorem c_fields (l : List Fld) (most : Int) (hl : l.length ≤ 4294967296) : Fn prog 51 [eFs l, .int .i64 most] (.bool (may6 l most)) := by
  refine run_51 rfl fun h => ?_
  by_cases h1 : 1 ≤ l.length ∧ l.length ≤ 6
  · have f1 : decide ((l.length : Int) < 1) = false := by simp; omega
    have f2 : decide ((6 : Int) < (l.length : Int)) = false := by simp; omega
    repeat' (first
    | simp (implicitDefEqProofs := false) only [env0, List.map_cons, List.map_nil, List.length_cons, List.length_nil, List.take_succ_cons, List.take_zero, List.toList_toArray, r_end, r_seq, r_block, r_region, r_loop, r_cond, r_cond_b, r_bo_t, r_bo_f, r_code_ret, r_code_ex, r_blk_ret, r_blk, r_blk_ex, r_cut, r_op, r_nil, r_skip, r_label, r_exit, r_ret, r_guard, r_g_undef, r_g_b, r_bg_tt, r_bg_ff, r_bg_tf, r_bg_ft, o_assign, o_move, o_pick, rp_b, bp_t, bp_f, bp_b, o_bin, rb_f, rb_eql, rb_neq, isNil_int, isNil_tmp, isNil_bool, isNil_str, isNil_slice, o_load, o_store, o_nilCheck, o_unOp, o_convert, o_extract, o_index, o_indexAddr, o_build, o_fieldAddr, o_field, o_alloc, o_box, rm, rh_new, rh_ret, rh_rd, rhd_some, o_buildSlice, o_makeSlice, o_append, o_len, o_clear, o_min, o_max, o_slice, o_makeFunc, rw_t, o_call, rf_fn, ra_t, d_nil, d_op, d_guard, dg_undef, dg_b, bd_tt, bd_ff, bd_tf, bd_ft, dx, dw_t, dv, tcOf_wr, tcOf_all, ap_wr, ap_all, clear_nil, clear_cons, clr1_some, ds_ret, ds_rd, dd_some, dm_t, do_move, do_assign, do_pick, dp_b, bq_t, bq_f, bq_b, do_load, do_store, do_nilCheck, do_unOp, do_convert, do_extract, do_index, do_indexAddr, do_build, do_fieldAddr, do_field, do_bin, do_slice, do_len, do_clear, do_alloc, do_box, do_buildSlice, do_makeSlice, do_append, do_call, df_fn, da_t, mkO, makes, holeO, apartB, disjB, memB, isE, Tc.isNone, ev, evs, constAV, lk, lkO_some, putD, put, rs_ret, rs_rd, rd_some, wrAll, gslot_0, gslot_succ, pairs, stLoad, stStore, stFieldAddr, stField, stIndexAddr, stIndex, intBin, stBin, stUn, stConv, stLen, stClear, stMin, stBuild, stBuildSlice, stMakeSlice, stNilCheck, stSlice, stAppendTo, stAppend, stBuiltin, stExtract, liveB, getE, getP, setE, setP, fillAV, lenAV, bnd, pIn, isNilB, winGet, nilEq, isSlice, isPtr, ty_int, ty_bool, ty_str, ty_agg, ty_list, ty_win, ty_ref, ty_eref, ty_nilptr, ty_fn, ty_nilfn, ty_nils, pl_int, pl_bool, pl_str, pl_agg, pl_list, pl_win, pl_ref, pl_eref, pl_nilptr, pl_fn, pl_nilfn, pl_nils, wk_int, wk_bool, wk_str, wk_list, wk_win, wk_ref, wk_eref, wk_nilptr, wk_fn, wk_nilfn, wk_nils, wkNil_slice, wk_aggE, wkAgg_struct, wkAgg_arr, List.zipWith_cons_cons, List.zipWith_nil_left, argsOK, wks, List.all_cons, List.all_nil, List.nil_append, List.append_nil, List.cons_append, AEx.fin, get_at0, get_at, set_at0, set_at, len_app, List.append_assoc, Nat.add_assoc, ne_eq, not_false_eq_true, not_true_eq_false, reduceIte, if_true, if_false, reduceCtorEq, Nat.reduceAdd, Nat.reduceSub, Nat.reduceEqDiff, Nat.reduceLT, Nat.reduceLeDiff, Nat.reduceBEq, Nat.reduceMul, Int.reduceLT, Int.reduceLE, Int.reduceEq, Int.reduceToNat, Int.reduceMul, Int.reduceNeg, Nat.add_zero, Nat.zero_add, or_true, true_or, or_false, false_or, and_true, true_and, and_false, false_and, and_self, Bool.and_true, Bool.true_and, Bool.and_false, Bool.false_and, Bool.not_true, Bool.not_false, Bool.or_true, Bool.true_or, Bool.or_false, Bool.false_or, Bool.false_eq_true, Bool.true_eq_false, decide_true, decide_false, decide_eq_true_eq, beq_self_eq_true, Nat.add_eq_left, Nat.left_eq_add, Nat.add_left_cancel_iff, List.replicate_zero, List.drop_nil, List.getElem?_cons_zero, List.getElem?_cons_succ, List.set_cons_zero, List.set_cons_succ, Option.map_some, Option.map_none, Option.isNone_none, Option.isNone_some, Option.isSome_none, Option.isSome_some, sh_2, ok_2, zo_2, za_2, ce_2, ro_2, sh_3, ok_3, zo_3, za_3, ce_3, ro_3, sh_4, ok_4, zo_4, za_4, ce_4, ro_4, sh_9, ok_9, zo_9, za_9, ce_9, ro_9, sh_23, ok_23, zo_23, za_23, ce_23, ro_23, sh_25, ok_25, zo_25, za_25, ce_25, ro_25, fl_25, po_25, bodyOf, Option.getD_some, Go.Proofs.Try.f51, fin_tmp, fin_cell, fk_tmp, fk_nil, fk_ct, ck_rd, ck_some, ck_ret, cell_rd, cell_some, cell_ret, res_int, res_bool, take_self, take_app, lq_normal, lq_exit, lq_ret, eFs, List.length_map, f1, f2]
    | refine bg_yes (fun hb => ?_) (fun hb => ?_)
    | refine bg_no (fun hb => ?_) (fun hb => ?_)
    | refine bo_mk (fun hb => ?_) (fun hb => ?_)
    | refine bp_mk (fun hb => ?_) (fun hb => ?_)
    | refine bd_yes (fun hb => ?_) (fun hb => ?_)
    | refine bd_no (fun hb => ?_) (fun hb => ?_)
    | refine bq_mk (fun hb => ?_) (fun hb => ?_)
    | refine rs_no ?_ ?_
    | refine rs_yes ?_ ?_
    | refine rh_yes ?_ ?_
    | refine ds_no ?_ ?_
    | refine ds_yes ?_ ?_
    | refine dw_mk ?_ ?_
    | refine rs_ite (fun hb => ?_) (fun hb => ?_)
    | refine rh_ite (fun hb => ?_) (fun hb => ?_)
    | refine ds_ite (fun hb => ?_) (fun hb => ?_)
    | refine rq_mk rfl (fun b hb => ?_))
    refine rl_count (fun i a => [(0, eFs l), (1, .int .i64 most), (4, .bool false), (5, .int .i64 i), (6, a 6), (14, a 14), (18, a 18), (59, a 59)]) (fun _ g => h ++ g) (fun i => i ≤ l.length ∧ ∀ j x, j < i → l[j]? = some x → ok6 most x = true) l.length (li_mk rfl ⟨[], (List.append_nil h).symm⟩ ⟨Nat.zero_le _, fun j x hj => by omega⟩) ?_
    rintro i a g' ⟨hi, hinv⟩
    refine ⟨hi, ?_⟩
    by_cases hlt : i < l.length
    · obtain ⟨x, hx⟩ : ∃ x, l[i]? = some x := ⟨_, List.getElem?_eq_getElem hlt⟩
      have hi9 : i < 9223372036854775807 := by omega
      repeat' (first
    | simp (implicitDefEqProofs := false) only [env0, List.map_cons, List.map_nil, List.length_cons, List.length_nil, List.take_succ_cons, List.take_zero, List.toList_toArray, r_end, r_seq, r_block, r_region, r_loop, r_cond, r_cond_b, r_bo_t, r_bo_f, r_code_ret, r_code_ex, r_blk_ret, r_blk, r_blk_ex, r_cut, r_op, r_nil, r_skip, r_label, r_exit, r_ret, r_guard, r_g_undef, r_g_b, r_bg_tt, r_bg_ff, r_bg_tf, r_bg_ft, o_assign, o_move, o_pick, rp_b, bp_t, bp_f, bp_b, o_bin, rb_f, rb_eql, rb_neq, isNil_int, isNil_tmp, isNil_bool, isNil_str, isNil_slice, o_load, o_store, o_nilCheck, o_unOp, o_convert, o_extract, o_index, o_indexAddr, o_build, o_fieldAddr, o_field, o_alloc, o_box, rm, rh_new, rh_ret, rh_rd, rhd_some, o_buildSlice, o_makeSlice, o_append, o_len, o_clear, o_min, o_max, o_slice, o_makeFunc, rw_t, o_call, rf_fn, ra_t, d_nil, d_op, d_guard, dg_undef, dg_b, bd_tt, bd_ff, bd_tf, bd_ft, dx, dw_t, dv, tcOf_wr, tcOf_all, ap_wr, ap_all, clear_nil, clear_cons, clr1_some, ds_ret, ds_rd, dd_some, dm_t, do_move, do_assign, do_pick, dp_b, bq_t, bq_f, bq_b, do_load, do_store, do_nilCheck, do_unOp, do_convert, do_extract, do_index, do_indexAddr, do_build, do_fieldAddr, do_field, do_bin, do_slice, do_len, do_clear, do_alloc, do_box, do_buildSlice, do_makeSlice, do_append, do_call, df_fn, da_t, mkO, makes, holeO, apartB, disjB, memB, isE, Tc.isNone, ev, evs, constAV, lk, lkO_some, putD, put, rs_ret, rs_rd, rd_some, wrAll, gslot_0, gslot_succ, pairs, stLoad, stStore, stFieldAddr, stField, stIndexAddr, stIndex, intBin, stBin, stUn, stConv, stLen, stClear, stMin, stBuild, stBuildSlice, stMakeSlice, stNilCheck, stSlice, stAppendTo, stAppend, stBuiltin, stExtract, liveB, getE, getP, setE, setP, fillAV, lenAV, bnd, pIn, isNilB, winGet, nilEq, isSlice, isPtr, ty_int, ty_bool, ty_str, ty_agg, ty_list, ty_win, ty_ref, ty_eref, ty_nilptr, ty_fn, ty_nilfn, ty_nils, pl_int, pl_bool, pl_str, pl_agg, pl_list, pl_win, pl_ref, pl_eref, pl_nilptr, pl_fn, pl_nilfn, pl_nils, wk_int, wk_bool, wk_str, wk_list, wk_win, wk_ref, wk_eref, wk_nilptr, wk_fn, wk_nilfn, wk_nils, wkNil_slice, wk_aggE, wkAgg_struct, wkAgg_arr, List.zipWith_cons_cons, List.zipWith_nil_left, argsOK, wks, List.all_cons, List.all_nil, List.nil_append, List.append_nil, List.cons_append, AEx.fin, get_at0, get_at, set_at0, set_at, len_app, List.append_assoc, Nat.add_assoc, ne_eq, not_false_eq_true, not_true_eq_false, reduceIte, if_true, if_false, reduceCtorEq, Nat.reduceAdd, Nat.reduceSub, Nat.reduceEqDiff, Nat.reduceLT, Nat.reduceLeDiff, Nat.reduceBEq, Nat.reduceMul, Int.reduceLT, Int.reduceLE, Int.reduceEq, Int.reduceToNat, Int.reduceMul, Int.reduceNeg, Nat.add_zero, Nat.zero_add, or_true, true_or, or_false, false_or, and_true, true_and, and_false, false_and, and_self, Bool.and_true, Bool.true_and, Bool.and_false, Bool.false_and, Bool.not_true, Bool.not_false, Bool.or_true, Bool.true_or, Bool.or_false, Bool.false_or, Bool.false_eq_true, Bool.true_eq_false, decide_true, decide_false, decide_eq_true_eq, beq_self_eq_true, Nat.add_eq_left, Nat.left_eq_add, Nat.add_left_cancel_iff, List.replicate_zero, List.drop_nil, List.getElem?_cons_zero, List.getElem?_cons_succ, List.set_cons_zero, List.set_cons_succ, Option.map_some, Option.map_none, Option.isNone_none, Option.isNone_some, Option.isSome_none, Option.isSome_some, sh_2, ok_2, zo_2, za_2, ce_2, ro_2, sh_3, ok_3, zo_3, za_3, ce_3, ro_3, sh_4, ok_4, zo_4, za_4, ce_4, ro_4, sh_9, ok_9, zo_9, za_9, ce_9, ro_9, sh_23, ok_23, zo_23, za_23, ce_23, ro_23, sh_25, ok_25, zo_25, za_25, ce_25, ro_25, fl_25, po_25, bodyOf, Option.getD_some, Go.Proofs.Try.f51, fin_tmp, fin_cell, fk_tmp, fk_nil, fk_ct, ck_rd, ck_some, ck_ret, cell_rd, cell_some, cell_ret, res_int, res_bool, take_self, take_app, lq_normal, lq_exit, lq_ret, eFs, eF, List.length_map, cast_lt hlt, in_row hlt, getD_map eF hx, Int.toNat_natCast, wrap_succ hi9]
    | refine bg_yes (fun hb => ?_) (fun hb => ?_)
    | refine bg_no (fun hb => ?_) (fun hb => ?_)
    | refine bo_mk (fun hb => ?_) (fun hb => ?_)
    | refine bp_mk (fun hb => ?_) (fun hb => ?_)
    | refine bd_yes (fun hb => ?_) (fun hb => ?_)
    | refine bd_no (fun hb => ?_) (fun hb => ?_)
    | refine bq_mk (fun hb => ?_) (fun hb => ?_)
    | refine rs_no ?_ ?_
    | refine rs_yes ?_ ?_
    | refine rh_yes ?_ ?_
    | refine ds_no ?_ ?_
    | refine ds_yes ?_ ?_
    | refine dw_mk ?_ ?_
    | refine rs_ite (fun hb => ?_) (fun hb => ?_)
    | refine rh_ite (fun hb => ?_) (fun hb => ?_)
    | refine ds_ite (fun hb => ?_) (fun hb => ?_)
    | refine rq_mk rfl (fun b hb => ?_)
    | refine li_mk ?_ ⟨_, rfl⟩ ?_)
      all_goals first
        | rfl
        | exact ⟨hlt, step_idx hx (by simp only [ok6]; grind) hinv⟩
        | (have hbad : l.all (ok6 most) = false := by
             rw [List.all_eq_false]; exact ⟨x, List.mem_of_getElem? hx, by simp only [ok6]; grind⟩
           simp only [may6, hbad, Bool.and_false])
    · have hall : l.all (ok6 most) = true := all_idx fun j x hj hx => hinv j x (by omega) hx
      repeat' (first
    | simp (implicitDefEqProofs := false) only [env0, List.map_cons, List.map_nil, List.length_cons, List.length_nil, List.take_succ_cons, List.take_zero, List.toList_toArray, r_end, r_seq, r_block, r_region, r_loop, r_cond, r_cond_b, r_bo_t, r_bo_f, r_code_ret, r_code_ex, r_blk_ret, r_blk, r_blk_ex, r_cut, r_op, r_nil, r_skip, r_label, r_exit, r_ret, r_guard, r_g_undef, r_g_b, r_bg_tt, r_bg_ff, r_bg_tf, r_bg_ft, o_assign, o_move, o_pick, rp_b, bp_t, bp_f, bp_b, o_bin, rb_f, rb_eql, rb_neq, isNil_int, isNil_tmp, isNil_bool, isNil_str, isNil_slice, o_load, o_store, o_nilCheck, o_unOp, o_convert, o_extract, o_index, o_indexAddr, o_build, o_fieldAddr, o_field, o_alloc, o_box, rm, rh_new, rh_ret, rh_rd, rhd_some, o_buildSlice, o_makeSlice, o_append, o_len, o_clear, o_min, o_max, o_slice, o_makeFunc, rw_t, o_call, rf_fn, ra_t, d_nil, d_op, d_guard, dg_undef, dg_b, bd_tt, bd_ff, bd_tf, bd_ft, dx, dw_t, dv, tcOf_wr, tcOf_all, ap_wr, ap_all, clear_nil, clear_cons, clr1_some, ds_ret, ds_rd, dd_some, dm_t, do_move, do_assign, do_pick, dp_b, bq_t, bq_f, bq_b, do_load, do_store, do_nilCheck, do_unOp, do_convert, do_extract, do_index, do_indexAddr, do_build, do_fieldAddr, do_field, do_bin, do_slice, do_len, do_clear, do_alloc, do_box, do_buildSlice, do_makeSlice, do_append, do_call, df_fn, da_t, mkO, makes, holeO, apartB, disjB, memB, isE, Tc.isNone, ev, evs, constAV, lk, lkO_some, putD, put, rs_ret, rs_rd, rd_some, wrAll, gslot_0, gslot_succ, pairs, stLoad, stStore, stFieldAddr, stField, stIndexAddr, stIndex, intBin, stBin, stUn, stConv, stLen, stClear, stMin, stBuild, stBuildSlice, stMakeSlice, stNilCheck, stSlice, stAppendTo, stAppend, stBuiltin, stExtract, liveB, getE, getP, setE, setP, fillAV, lenAV, bnd, pIn, isNilB, winGet, nilEq, isSlice, isPtr, ty_int, ty_bool, ty_str, ty_agg, ty_list, ty_win, ty_ref, ty_eref, ty_nilptr, ty_fn, ty_nilfn, ty_nils, pl_int, pl_bool, pl_str, pl_agg, pl_list, pl_win, pl_ref, pl_eref, pl_nilptr, pl_fn, pl_nilfn, pl_nils, wk_int, wk_bool, wk_str, wk_list, wk_win, wk_ref, wk_eref, wk_nilptr, wk_fn, wk_nilfn, wk_nils, wkNil_slice, wk_aggE, wkAgg_struct, wkAgg_arr, List.zipWith_cons_cons, List.zipWith_nil_left, argsOK, wks, List.all_cons, List.all_nil, List.nil_append, List.append_nil, List.cons_append, AEx.fin, get_at0, get_at, set_at0, set_at, len_app, List.append_assoc, Nat.add_assoc, ne_eq, not_false_eq_true, not_true_eq_false, reduceIte, if_true, if_false, reduceCtorEq, Nat.reduceAdd, Nat.reduceSub, Nat.reduceEqDiff, Nat.reduceLT, Nat.reduceLeDiff, Nat.reduceBEq, Nat.reduceMul, Int.reduceLT, Int.reduceLE, Int.reduceEq, Int.reduceToNat, Int.reduceMul, Int.reduceNeg, Nat.add_zero, Nat.zero_add, or_true, true_or, or_false, false_or, and_true, true_and, and_false, false_and, and_self, Bool.and_true, Bool.true_and, Bool.and_false, Bool.false_and, Bool.not_true, Bool.not_false, Bool.or_true, Bool.true_or, Bool.or_false, Bool.false_or, Bool.false_eq_true, Bool.true_eq_false, decide_true, decide_false, decide_eq_true_eq, beq_self_eq_true, Nat.add_eq_left, Nat.left_eq_add, Nat.add_left_cancel_iff, List.replicate_zero, List.drop_nil, List.getElem?_cons_zero, List.getElem?_cons_succ, List.set_cons_zero, List.set_cons_succ, Option.map_some, Option.map_none, Option.isNone_none, Option.isNone_some, Option.isSome_none, Option.isSome_some, sh_2, ok_2, zo_2, za_2, ce_2, ro_2, sh_3, ok_3, zo_3, za_3, ce_3, ro_3, sh_4, ok_4, zo_4, za_4, ce_4, ro_4, sh_9, ok_9, zo_9, za_9, ce_9, ro_9, sh_23, ok_23, zo_23, za_23, ce_23, ro_23, sh_25, ok_25, zo_25, za_25, ce_25, ro_25, fl_25, po_25, bodyOf, Option.getD_some, Go.Proofs.Try.f51, fin_tmp, fin_cell, fk_tmp, fk_nil, fk_ct, ck_rd, ck_some, ck_ret, cell_rd, cell_some, cell_ret, res_int, res_bool, take_self, take_app, lq_normal, lq_exit, lq_ret, eFs, List.length_map, cast_ge hlt]
    | refine bg_yes (fun hb => ?_) (fun hb => ?_)
    | refine bg_no (fun hb => ?_) (fun hb => ?_)
    | refine bo_mk (fun hb => ?_) (fun hb => ?_)
    | refine bp_mk (fun hb => ?_) (fun hb => ?_)
    | refine bd_yes (fun hb => ?_) (fun hb => ?_)
    | refine bd_no (fun hb => ?_) (fun hb => ?_)
    | refine bq_mk (fun hb => ?_) (fun hb => ?_)
    | refine rs_no ?_ ?_
    | refine rs_yes ?_ ?_
    | refine rh_yes ?_ ?_
    | refine ds_no ?_ ?_
    | refine ds_yes ?_ ?_
    | refine dw_mk ?_ ?_
    | refine rs_ite (fun hb => ?_) (fun hb => ?_)
    | refine rh_ite (fun hb => ?_) (fun hb => ?_)
    | refine ds_ite (fun hb => ?_) (fun hb => ?_)
    | refine rq_mk rfl (fun b hb => ?_))
      simp only [may6, hall, decide_eq_true h1.1, decide_eq_true h1.2, Bool.and_self]
  · have e : may6 l most = false := by
      unfold may6
      by_cases h2 : 1 ≤ l.length
      · rw [decide_eq_false (p := l.length ≤ 6) (by omega)]; simp
      · rw [decide_eq_false h2]; rfl
    rw [e]
    by_cases h2 : l.length < 1
    · have f1 : decide ((l.length : Int) < 1) = true := by simp; omega
      repeat' (first
    | simp (implicitDefEqProofs := false) only [env0, List.map_cons, List.map_nil, List.length_cons, List.length_nil, List.take_succ_cons, List.take_zero, List.toList_toArray, r_end, r_seq, r_block, r_region, r_loop, r_cond, r_cond_b, r_bo_t, r_bo_f, r_code_ret, r_code_ex, r_blk_ret, r_blk, r_blk_ex, r_cut, r_op, r_nil, r_skip, r_label, r_exit, r_ret, r_guard, r_g_undef, r_g_b, r_bg_tt, r_bg_ff, r_bg_tf, r_bg_ft, o_assign, o_move, o_pick, rp_b, bp_t, bp_f, bp_b, o_bin, rb_f, rb_eql, rb_neq, isNil_int, isNil_tmp, isNil_bool, isNil_str, isNil_slice, o_load, o_store, o_nilCheck, o_unOp, o_convert, o_extract, o_index, o_indexAddr, o_build, o_fieldAddr, o_field, o_alloc, o_box, rm, rh_new, rh_ret, rh_rd, rhd_some, o_buildSlice, o_makeSlice, o_append, o_len, o_clear, o_min, o_max, o_slice, o_makeFunc, rw_t, o_call, rf_fn, ra_t, d_nil, d_op, d_guard, dg_undef, dg_b, bd_tt, bd_ff, bd_tf, bd_ft, dx, dw_t, dv, tcOf_wr, tcOf_all, ap_wr, ap_all, clear_nil, clear_cons, clr1_some, ds_ret, ds_rd, dd_some, dm_t, do_move, do_assign, do_pick, dp_b, bq_t, bq_f, bq_b, do_load, do_store, do_nilCheck, do_unOp, do_convert, do_extract, do_index, do_indexAddr, do_build, do_fieldAddr, do_field, do_bin, do_slice, do_len, do_clear, do_alloc, do_box, do_buildSlice, do_makeSlice, do_append, do_call, df_fn, da_t, mkO, makes, holeO, apartB, disjB, memB, isE, Tc.isNone, ev, evs, constAV, lk, lkO_some, putD, put, rs_ret, rs_rd, rd_some, wrAll, gslot_0, gslot_succ, pairs, stLoad, stStore, stFieldAddr, stField, stIndexAddr, stIndex, intBin, stBin, stUn, stConv, stLen, stClear, stMin, stBuild, stBuildSlice, stMakeSlice, stNilCheck, stSlice, stAppendTo, stAppend, stBuiltin, stExtract, liveB, getE, getP, setE, setP, fillAV, lenAV, bnd, pIn, isNilB, winGet, nilEq, isSlice, isPtr, ty_int, ty_bool, ty_str, ty_agg, ty_list, ty_win, ty_ref, ty_eref, ty_nilptr, ty_fn, ty_nilfn, ty_nils, pl_int, pl_bool, pl_str, pl_agg, pl_list, pl_win, pl_ref, pl_eref, pl_nilptr, pl_fn, pl_nilfn, pl_nils, wk_int, wk_bool, wk_str, wk_list, wk_win, wk_ref, wk_eref, wk_nilptr, wk_fn, wk_nilfn, wk_nils, wkNil_slice, wk_aggE, wkAgg_struct, wkAgg_arr, List.zipWith_cons_cons, List.zipWith_nil_left, argsOK, wks, List.all_cons, List.all_nil, List.nil_append, List.append_nil, List.cons_append, AEx.fin, get_at0, get_at, set_at0, set_at, len_app, List.append_assoc, Nat.add_assoc, ne_eq, not_false_eq_true, not_true_eq_false, reduceIte, if_true, if_false, reduceCtorEq, Nat.reduceAdd, Nat.reduceSub, Nat.reduceEqDiff, Nat.reduceLT, Nat.reduceLeDiff, Nat.reduceBEq, Nat.reduceMul, Int.reduceLT, Int.reduceLE, Int.reduceEq, Int.reduceToNat, Int.reduceMul, Int.reduceNeg, Nat.add_zero, Nat.zero_add, or_true, true_or, or_false, false_or, and_true, true_and, and_false, false_and, and_self, Bool.and_true, Bool.true_and, Bool.and_false, Bool.false_and, Bool.not_true, Bool.not_false, Bool.or_true, Bool.true_or, Bool.or_false, Bool.false_or, Bool.false_eq_true, Bool.true_eq_false, decide_true, decide_false, decide_eq_true_eq, beq_self_eq_true, Nat.add_eq_left, Nat.left_eq_add, Nat.add_left_cancel_iff, List.replicate_zero, List.drop_nil, List.getElem?_cons_zero, List.getElem?_cons_succ, List.set_cons_zero, List.set_cons_succ, Option.map_some, Option.map_none, Option.isNone_none, Option.isNone_some, Option.isSome_none, Option.isSome_some, sh_2, ok_2, zo_2, za_2, ce_2, ro_2, sh_3, ok_3, zo_3, za_3, ce_3, ro_3, sh_4, ok_4, zo_4, za_4, ce_4, ro_4, sh_9, ok_9, zo_9, za_9, ce_9, ro_9, sh_23, ok_23, zo_23, za_23, ce_23, ro_23, sh_25, ok_25, zo_25, za_25, ce_25, ro_25, fl_25, po_25, bodyOf, Option.getD_some, Go.Proofs.Try.f51, fin_tmp, fin_cell, fk_tmp, fk_nil, fk_ct, ck_rd, ck_some, ck_ret, cell_rd, cell_some, cell_ret, res_int, res_bool, take_self, take_app, lq_normal, lq_exit, lq_ret, eFs, List.length_map, f1]
    | refine bg_yes (fun hb => ?_) (fun hb => ?_)
    | refine bg_no (fun hb => ?_) (fun hb => ?_)
    | refine bo_mk (fun hb => ?_) (fun hb => ?_)
    | refine bp_mk (fun hb => ?_) (fun hb => ?_)
    | refine bd_yes (fun hb => ?_) (fun hb => ?_)
    | refine bd_no (fun hb => ?_) (fun hb => ?_)
    | refine bq_mk (fun hb => ?_) (fun hb => ?_)
    | refine rs_no ?_ ?_
    | refine rs_yes ?_ ?_
    | refine rh_yes ?_ ?_
    | refine ds_no ?_ ?_
    | refine ds_yes ?_ ?_
    | refine dw_mk ?_ ?_
    | refine rs_ite (fun hb => ?_) (fun hb => ?_)
    | refine rh_ite (fun hb => ?_) (fun hb => ?_)
    | refine ds_ite (fun hb => ?_) (fun hb => ?_)
    | refine rq_mk rfl (fun b hb => ?_))
    · have f1 : decide ((l.length : Int) < 1) = false := by simp; omega
      have f2 : decide ((6 : Int) < (l.length : Int)) = true := by simp; omega
      repeat' (first
    | simp (implicitDefEqProofs := false) only [env0, List.map_cons, List.map_nil, List.length_cons, List.length_nil, List.take_succ_cons, List.take_zero, List.toList_toArray, r_end, r_seq, r_block, r_region, r_loop, r_cond, r_cond_b, r_bo_t, r_bo_f, r_code_ret, r_code_ex, r_blk_ret, r_blk, r_blk_ex, r_cut, r_op, r_nil, r_skip, r_label, r_exit, r_ret, r_guard, r_g_undef, r_g_b, r_bg_tt, r_bg_ff, r_bg_tf, r_bg_ft, o_assign, o_move, o_pick, rp_b, bp_t, bp_f, bp_b, o_bin, rb_f, rb_eql, rb_neq, isNil_int, isNil_tmp, isNil_bool, isNil_str, isNil_slice, o_load, o_store, o_nilCheck, o_unOp, o_convert, o_extract, o_index, o_indexAddr, o_build, o_fieldAddr, o_field, o_alloc, o_box, rm, rh_new, rh_ret, rh_rd, rhd_some, o_buildSlice, o_makeSlice, o_append, o_len, o_clear, o_min, o_max, o_slice, o_makeFunc, rw_t, o_call, rf_fn, ra_t, d_nil, d_op, d_guard, dg_undef, dg_b, bd_tt, bd_ff, bd_tf, bd_ft, dx, dw_t, dv, tcOf_wr, tcOf_all, ap_wr, ap_all, clear_nil, clear_cons, clr1_some, ds_ret, ds_rd, dd_some, dm_t, do_move, do_assign, do_pick, dp_b, bq_t, bq_f, bq_b, do_load, do_store, do_nilCheck, do_unOp, do_convert, do_extract, do_index, do_indexAddr, do_build, do_fieldAddr, do_field, do_bin, do_slice, do_len, do_clear, do_alloc, do_box, do_buildSlice, do_makeSlice, do_append, do_call, df_fn, da_t, mkO, makes, holeO, apartB, disjB, memB, isE, Tc.isNone, ev, evs, constAV, lk, lkO_some, putD, put, rs_ret, rs_rd, rd_some, wrAll, gslot_0, gslot_succ, pairs, stLoad, stStore, stFieldAddr, stField, stIndexAddr, stIndex, intBin, stBin, stUn, stConv, stLen, stClear, stMin, stBuild, stBuildSlice, stMakeSlice, stNilCheck, stSlice, stAppendTo, stAppend, stBuiltin, stExtract, liveB, getE, getP, setE, setP, fillAV, lenAV, bnd, pIn, isNilB, winGet, nilEq, isSlice, isPtr, ty_int, ty_bool, ty_str, ty_agg, ty_list, ty_win, ty_ref, ty_eref, ty_nilptr, ty_fn, ty_nilfn, ty_nils, pl_int, pl_bool, pl_str, pl_agg, pl_list, pl_win, pl_ref, pl_eref, pl_nilptr, pl_fn, pl_nilfn, pl_nils, wk_int, wk_bool, wk_str, wk_list, wk_win, wk_ref, wk_eref, wk_nilptr, wk_fn, wk_nilfn, wk_nils, wkNil_slice, wk_aggE, wkAgg_struct, wkAgg_arr, List.zipWith_cons_cons, List.zipWith_nil_left, argsOK, wks, List.all_cons, List.all_nil, List.nil_append, List.append_nil, List.cons_append, AEx.fin, get_at0, get_at, set_at0, set_at, len_app, List.append_assoc, Nat.add_assoc, ne_eq, not_false_eq_true, not_true_eq_false, reduceIte, if_true, if_false, reduceCtorEq, Nat.reduceAdd, Nat.reduceSub, Nat.reduceEqDiff, Nat.reduceLT, Nat.reduceLeDiff, Nat.reduceBEq, Nat.reduceMul, Int.reduceLT, Int.reduceLE, Int.reduceEq, Int.reduceToNat, Int.reduceMul, Int.reduceNeg, Nat.add_zero, Nat.zero_add, or_true, true_or, or_false, false_or, and_true, true_and, and_false, false_and, and_self, Bool.and_true, Bool.true_and, Bool.and_false, Bool.false_and, Bool.not_true, Bool.not_false, Bool.or_true, Bool.true_or, Bool.or_false, Bool.false_or, Bool.false_eq_true, Bool.true_eq_false, decide_true, decide_false, decide_eq_true_eq, beq_self_eq_true, Nat.add_eq_left, Nat.left_eq_add, Nat.add_left_cancel_iff, List.replicate_zero, List.drop_nil, List.getElem?_cons_zero, List.getElem?_cons_succ, List.set_cons_zero, List.set_cons_succ, Option.map_some, Option.map_none, Option.isNone_none, Option.isNone_some, Option.isSome_none, Option.isSome_some, sh_2, ok_2, zo_2, za_2, ce_2, ro_2, sh_3, ok_3, zo_3, za_3, ce_3, ro_3, sh_4, ok_4, zo_4, za_4, ce_4, ro_4, sh_9, ok_9, zo_9, za_9, ce_9, ro_9, sh_23, ok_23, zo_23, za_23, ce_23, ro_23, sh_25, ok_25, zo_25, za_25, ce_25, ro_25, fl_25, po_25, bodyOf, Option.getD_some, Go.Proofs.Try.f51, fin_tmp, fin_cell, fk_tmp, fk_nil, fk_ct, ck_rd, ck_some, ck_ret, cell_rd, cell_some, cell_ret, res_int, res_bool, take_self, take_app, lq_normal, lq_exit, lq_ret, eFs, List.length_map, f1, f2]
    | refine bg_yes (fun hb => ?_) (fun hb => ?_)
    | refine bg_no (fun hb => ?_) (fun hb => ?_)
    | refine bo_mk (fun hb => ?_) (fun hb => ?_)
    | refine bp_mk (fun hb => ?_) (fun hb => ?_)
    | refine bd_yes (fun hb => ?_) (fun hb => ?_)
    | refine bd_no (fun hb => ?_) (fun hb => ?_)
    | refine bq_mk (fun hb => ?_) (fun hb => ?_)
    | refine rs_no ?_ ?_
    | refine rs_yes ?_ ?_
    | refine rh_yes ?_ ?_
    | refine ds_no ?_ ?_
    | refine ds_yes ?_ ?_
    | refine dw_mk ?_ ?_
    | refine rs_ite (fun hb => ?_) (fun hb => ?_)
    | refine rh_ite (fun hb => ?_) (fun hb => ?_)
    | refine ds_ite (fun hb => ?_) (fun hb => ?_)
    | refine rq_mk rfl (fun b hb => ?_))
theorem c_MayTuple6 (l : List Fld) (hl : l.length ≤ 4294967296) : Fn prog 22 [eFs l] (.bool (may6 l 2)) := by
  refine run_22 rfl fun h => ?_
  repeat' (first
    | simp (implicitDefEqProofs := false) only [env0, List.map_cons, List.map_nil, List.length_cons, List.length_nil, List.take_succ_cons, List.take_zero, List.toList_toArray, r_end, r_seq, r_block, r_region, r_loop, r_cond, r_cond_b, r_bo_t, r_bo_f, r_code_ret, r_code_ex, r_blk_ret, r_blk, r_blk_ex, r_cut, r_op, r_nil, r_skip, r_label, r_exit, r_ret, r_guard, r_g_undef, r_g_b, r_bg_tt, r_bg_ff, r_bg_tf, r_bg_ft, o_assign, o_move, o_pick, rp_b, bp_t, bp_f, bp_b, o_bin, rb_f, rb_eql, rb_neq, isNil_int, isNil_tmp, isNil_bool, isNil_str, isNil_slice, o_load, o_store, o_nilCheck, o_unOp, o_convert, o_extract, o_index, o_indexAddr, o_build, o_fieldAddr, o_field, o_alloc, o_box, rm, rh_new, rh_ret, rh_rd, rhd_some, o_buildSlice, o_makeSlice, o_append, o_len, o_clear, o_min, o_max, o_slice, o_makeFunc, rw_t, o_call, rf_fn, ra_t, d_nil, d_op, d_guard, dg_undef, dg_b, bd_tt, bd_ff, bd_tf, bd_ft, dx, dw_t, dv, tcOf_wr, tcOf_all, ap_wr, ap_all, clear_nil, clear_cons, clr1_some, ds_ret, ds_rd, dd_some, dm_t, do_move, do_assign, do_pick, dp_b, bq_t, bq_f, bq_b, do_load, do_store, do_nilCheck, do_unOp, do_convert, do_extract, do_index, do_indexAddr, do_build, do_fieldAddr, do_field, do_bin, do_slice, do_len, do_clear, do_alloc, do_box, do_buildSlice, do_makeSlice, do_append, do_call, df_fn, da_t, mkO, makes, holeO, apartB, disjB, memB, isE, Tc.isNone, ev, evs, constAV, lk, lkO_some, putD, put, rs_ret, rs_rd, rd_some, wrAll, gslot_0, gslot_succ, pairs, stLoad, stStore, stFieldAddr, stField, stIndexAddr, stIndex, intBin, stBin, stUn, stConv, stLen, stClear, stMin, stBuild, stBuildSlice, stMakeSlice, stNilCheck, stSlice, stAppendTo, stAppend, stBuiltin, stExtract, liveB, getE, getP, setE, setP, fillAV, lenAV, bnd, pIn, isNilB, winGet, nilEq, isSlice, isPtr, ty_int, ty_bool, ty_str, ty_agg, ty_list, ty_win, ty_ref, ty_eref, ty_nilptr, ty_fn, ty_nilfn, ty_nils, pl_int, pl_bool, pl_str, pl_agg, pl_list, pl_win, pl_ref, pl_eref, pl_nilptr, pl_fn, pl_nilfn, pl_nils, wk_int, wk_bool, wk_str, wk_list, wk_win, wk_ref, wk_eref, wk_nilptr, wk_fn, wk_nilfn, wk_nils, wkNil_slice, wk_aggE, wkAgg_struct, wkAgg_arr, List.zipWith_cons_cons, List.zipWith_nil_left, argsOK, wks, List.all_cons, List.all_nil, List.nil_append, List.append_nil, List.cons_append, AEx.fin, get_at0, get_at, set_at0, set_at, len_app, List.append_assoc, Nat.add_assoc, ne_eq, not_false_eq_true, not_true_eq_false, reduceIte, if_true, if_false, reduceCtorEq, Nat.reduceAdd, Nat.reduceSub, Nat.reduceEqDiff, Nat.reduceLT, Nat.reduceLeDiff, Nat.reduceBEq, Nat.reduceMul, Int.reduceLT, Int.reduceLE, Int.reduceEq, Int.reduceToNat, Int.reduceMul, Int.reduceNeg, Nat.add_zero, Nat.zero_add, or_true, true_or, or_false, false_or, and_true, true_and, and_false, false_and, and_self, Bool.and_true, Bool.true_and, Bool.and_false, Bool.false_and, Bool.not_true, Bool.not_false, Bool.or_true, Bool.true_or, Bool.or_false, Bool.false_or, Bool.false_eq_true, Bool.true_eq_false, decide_true, decide_false, decide_eq_true_eq, beq_self_eq_true, Nat.add_eq_left, Nat.left_eq_add, Nat.add_left_cancel_iff, List.replicate_zero, List.drop_nil, List.getElem?_cons_zero, List.getElem?_cons_succ, List.set_cons_zero, List.set_cons_succ, Option.map_some, Option.map_none, Option.isNone_none, Option.isNone_some, Option.isSome_none, Option.isSome_some, sh_2, ok_2, zo_2, za_2, ce_2, ro_2, sh_3, ok_3, zo_3, za_3, ce_3, ro_3, sh_4, ok_4, zo_4, za_4, ce_4, ro_4, sh_9, ok_9, zo_9, za_9, ce_9, ro_9, sh_23, ok_23, zo_23, za_23, ce_23, ro_23, sh_25, ok_25, zo_25, za_25, ce_25, ro_25, fl_25, po_25, bodyOf, Option.getD_some, Go.Proofs.Try.f22, fin_tmp, fin_cell, fk_tmp, fk_nil, fk_ct, ck_rd, ck_some, ck_ret, cell_rd, cell_some, cell_ret, res_int, res_bool, take_self, take_app, lq_normal, lq_exit, lq_ret, eFs_ty, eFs_pl, eFs_wk]
    | refine bg_yes (fun hb => ?_) (fun hb => ?_)
    | refine bg_no (fun hb => ?_) (fun hb => ?_)
    | refine bo_mk (fun hb => ?_) (fun hb => ?_)
    | refine bp_mk (fun hb => ?_) (fun hb => ?_)
    | refine bd_yes (fun hb => ?_) (fun hb => ?_)
    | refine bd_no (fun hb => ?_) (fun hb => ?_)
    | refine bq_mk (fun hb => ?_) (fun hb => ?_)
    | refine rs_no ?_ ?_
    | refine rs_yes ?_ ?_
    | refine rh_yes ?_ ?_
    | refine ds_no ?_ ?_
    | refine ds_yes ?_ ?_
    | refine dw_mk ?_ ?_
    | refine rs_ite (fun hb => ?_) (fun hb => ?_)
    | refine rh_ite (fun hb => ?_) (fun hb => ?_)
    | refine ds_ite (fun hb => ?_) (fun hb => ?_)
    | refine rq_mk rfl (fun b hb => ?_)
    | refine k_fn (c_fields l 2 hl) ?_)
theorem c_SameFields (l m : List Fld) (hl : l.length ≤ 4294967296) (hm : m.length ≤ 4294967296) : Fn prog 18 [eFs l, eFs m] (.bool (all2 Fld.same l m)) := by
  refine run_18 rfl fun h => ?_
  by_cases hlen : l.length = m.length
  · repeat' (first
    | simp (implicitDefEqProofs := false) only [env0, List.map_cons, List.map_nil, List.length_cons, List.length_nil, List.take_succ_cons, List.take_zero, List.toList_toArray, r_end, r_seq, r_block, r_region, r_loop, r_cond, r_cond_b, r_bo_t, r_bo_f, r_code_ret, r_code_ex, r_blk_ret, r_blk, r_blk_ex, r_cut, r_op, r_nil, r_skip, r_label, r_exit, r_ret, r_guard, r_g_undef, r_g_b, r_bg_tt, r_bg_ff, r_bg_tf, r_bg_ft, o_assign, o_move, o_pick, rp_b, bp_t, bp_f, bp_b, o_bin, rb_f, rb_eql, rb_neq, isNil_int, isNil_tmp, isNil_bool, isNil_str, isNil_slice, o_load, o_store, o_nilCheck, o_unOp, o_convert, o_extract, o_index, o_indexAddr, o_build, o_fieldAddr, o_field, o_alloc, o_box, rm, rh_new, rh_ret, rh_rd, rhd_some, o_buildSlice, o_makeSlice, o_append, o_len, o_clear, o_min, o_max, o_slice, o_makeFunc, rw_t, o_call, rf_fn, ra_t, d_nil, d_op, d_guard, dg_undef, dg_b, bd_tt, bd_ff, bd_tf, bd_ft, dx, dw_t, dv, tcOf_wr, tcOf_all, ap_wr, ap_all, clear_nil, clear_cons, clr1_some, ds_ret, ds_rd, dd_some, dm_t, do_move, do_assign, do_pick, dp_b, bq_t, bq_f, bq_b, do_load, do_store, do_nilCheck, do_unOp, do_convert, do_extract, do_index, do_indexAddr, do_build, do_fieldAddr, do_field, do_bin, do_slice, do_len, do_clear, do_alloc, do_box, do_buildSlice, do_makeSlice, do_append, do_call, df_fn, da_t, mkO, makes, holeO, apartB, disjB, memB, isE, Tc.isNone, ev, evs, constAV, lk, lkO_some, putD, put, rs_ret, rs_rd, rd_some, wrAll, gslot_0, gslot_succ, pairs, stLoad, stStore, stFieldAddr, stField, stIndexAddr, stIndex, intBin, stBin, stUn, stConv, stLen, stClear, stMin, stBuild, stBuildSlice, stMakeSlice, stNilCheck, stSlice, stAppendTo, stAppend, stBuiltin, stExtract, liveB, getE, getP, setE, setP, fillAV, lenAV, bnd, pIn, isNilB, winGet, nilEq, isSlice, isPtr, ty_int, ty_bool, ty_str, ty_agg, ty_list, ty_win, ty_ref, ty_eref, ty_nilptr, ty_fn, ty_nilfn, ty_nils, pl_int, pl_bool, pl_str, pl_agg, pl_list, pl_win, pl_ref, pl_eref, pl_nilptr, pl_fn, pl_nilfn, pl_nils, wk_int, wk_bool, wk_str, wk_list, wk_win, wk_ref, wk_eref, wk_nilptr, wk_fn, wk_nilfn, wk_nils, wkNil_slice, wk_aggE, wkAgg_struct, wkAgg_arr, List.zipWith_cons_cons, List.zipWith_nil_left, argsOK, wks, List.all_cons, List.all_nil, List.nil_append, List.append_nil, List.cons_append, AEx.fin, get_at0, get_at, set_at0, set_at, len_app, List.append_assoc, Nat.add_assoc, ne_eq, not_false_eq_true, not_true_eq_false, reduceIte, if_true, if_false, reduceCtorEq, Nat.reduceAdd, Nat.reduceSub, Nat.reduceEqDiff, Nat.reduceLT, Nat.reduceLeDiff, Nat.reduceBEq, Nat.reduceMul, Int.reduceLT, Int.reduceLE, Int.reduceEq, Int.reduceToNat, Int.reduceMul, Int.reduceNeg, Nat.add_zero, Nat.zero_add, or_true, true_or, or_false, false_or, and_true, true_and, and_false, false_and, and_self, Bool.and_true, Bool.true_and, Bool.and_false, Bool.false_and, Bool.not_true, Bool.not_false, Bool.or_true, Bool.true_or, Bool.or_false, Bool.false_or, Bool.false_eq_true, Bool.true_eq_false, decide_true, decide_false, decide_eq_true_eq, beq_self_eq_true, Nat.add_eq_left, Nat.left_eq_add, Nat.add_left_cancel_iff, List.replicate_zero, List.drop_nil, List.getElem?_cons_zero, List.getElem?_cons_succ, List.set_cons_zero, List.set_cons_succ, Option.map_some, Option.map_none, Option.isNone_none, Option.isNone_some, Option.isSome_none, Option.isSome_some, sh_2, ok_2, zo_2, za_2, ce_2, ro_2, sh_3, ok_3, zo_3, za_3, ce_3, ro_3, sh_4, ok_4, zo_4, za_4, ce_4, ro_4, sh_9, ok_9, zo_9, za_9, ce_9, ro_9, sh_23, ok_23, zo_23, za_23, ce_23, ro_23, sh_25, ok_25, zo_25, za_25, ce_25, ro_25, fl_25, po_25, bodyOf, Option.getD_some, Go.Proofs.Try.f18, fin_tmp, fin_cell, fk_tmp, fk_nil, fk_ct, ck_rd, ck_some, ck_ret, cell_rd, cell_some, cell_ret, res_int, res_bool, take_self, take_app, lq_normal, lq_exit, lq_ret, eFs, List.length_map, eq_len hlen]
    | refine bg_yes (fun hb => ?_) (fun hb => ?_)
    | refine bg_no (fun hb => ?_) (fun hb => ?_)
    | refine bo_mk (fun hb => ?_) (fun hb => ?_)
    | refine bp_mk (fun hb => ?_) (fun hb => ?_)
    | refine bd_yes (fun hb => ?_) (fun hb => ?_)
    | refine bd_no (fun hb => ?_) (fun hb => ?_)
    | refine bq_mk (fun hb => ?_) (fun hb => ?_)
    | refine rs_no ?_ ?_
    | refine rs_yes ?_ ?_
    | refine rh_yes ?_ ?_
    | refine ds_no ?_ ?_
    | refine ds_yes ?_ ?_
    | refine dw_mk ?_ ?_
    | refine rs_ite (fun hb => ?_) (fun hb => ?_)
    | refine rh_ite (fun hb => ?_) (fun hb => ?_)
    | refine ds_ite (fun hb => ?_) (fun hb => ?_)
    | refine rq_mk rfl (fun b hb => ?_)
    | refine r_draw (U := [[], [], [], [], [], [], [], [], []]) (H := []) hmix (by kernel_rfl) (by decide +kernel) (by kernel_rfl) ?_)
    refine rl_count (fun i a => [(0, eFs l), (1, eFs m), (4, .bool false), (5, .int .i64 i), (10, a 10), (14, a 14), (25, a 25)]) (fun _ g => h ++ g) (fun i => i ≤ l.length ∧ ∀ j x y, j < i → l[j]? = some x → m[j]? = some y → Fld.same x y = true) l.length (li_mk rfl ⟨[], (List.append_nil h).symm⟩ ⟨Nat.zero_le _, fun j x y hj => by omega⟩) ?_
    rintro i a g' ⟨hi, hinv⟩
    refine ⟨hi, ?_⟩
    by_cases hlt : i < l.length
    · have hlt' : i < m.length := by omega
      have hx : l[i]? = some l[i] := List.getElem?_eq_getElem hlt
      have hy : m[i]? = some m[i] := List.getElem?_eq_getElem hlt'
      have hi9 : i < 9223372036854775807 := by omega
      by_cases hs : Fld.same l[i] m[i] = true
      · have hs2 := hs
        simp only [Fld.same] at hs2
        repeat' (first
    | simp (implicitDefEqProofs := false) only [env0, List.map_cons, List.map_nil, List.length_cons, List.length_nil, List.take_succ_cons, List.take_zero, List.toList_toArray, r_end, r_seq, r_block, r_region, r_loop, r_cond, r_cond_b, r_bo_t, r_bo_f, r_code_ret, r_code_ex, r_blk_ret, r_blk, r_blk_ex, r_cut, r_op, r_nil, r_skip, r_label, r_exit, r_ret, r_guard, r_g_undef, r_g_b, r_bg_tt, r_bg_ff, r_bg_tf, r_bg_ft, o_assign, o_move, o_pick, rp_b, bp_t, bp_f, bp_b, o_bin, rb_f, rb_eql, rb_neq, isNil_int, isNil_tmp, isNil_bool, isNil_str, isNil_slice, o_load, o_store, o_nilCheck, o_unOp, o_convert, o_extract, o_index, o_indexAddr, o_build, o_fieldAddr, o_field, o_alloc, o_box, rm, rh_new, rh_ret, rh_rd, rhd_some, o_buildSlice, o_makeSlice, o_append, o_len, o_clear, o_min, o_max, o_slice, o_makeFunc, rw_t, o_call, rf_fn, ra_t, d_nil, d_op, d_guard, dg_undef, dg_b, bd_tt, bd_ff, bd_tf, bd_ft, dx, dw_t, dv, tcOf_wr, tcOf_all, ap_wr, ap_all, clear_nil, clear_cons, clr1_some, ds_ret, ds_rd, dd_some, dm_t, do_move, do_assign, do_pick, dp_b, bq_t, bq_f, bq_b, do_load, do_store, do_nilCheck, do_unOp, do_convert, do_extract, do_index, do_indexAddr, do_build, do_fieldAddr, do_field, do_bin, do_slice, do_len, do_clear, do_alloc, do_box, do_buildSlice, do_makeSlice, do_append, do_call, df_fn, da_t, mkO, makes, holeO, apartB, disjB, memB, isE, Tc.isNone, ev, evs, constAV, lk, lkO_some, putD, put, rs_ret, rs_rd, rd_some, wrAll, gslot_0, gslot_succ, pairs, stLoad, stStore, stFieldAddr, stField, stIndexAddr, stIndex, intBin, stBin, stUn, stConv, stLen, stClear, stMin, stBuild, stBuildSlice, stMakeSlice, stNilCheck, stSlice, stAppendTo, stAppend, stBuiltin, stExtract, liveB, getE, getP, setE, setP, fillAV, lenAV, bnd, pIn, isNilB, winGet, nilEq, isSlice, isPtr, ty_int, ty_bool, ty_str, ty_agg, ty_list, ty_win, ty_ref, ty_eref, ty_nilptr, ty_fn, ty_nilfn, ty_nils, pl_int, pl_bool, pl_str, pl_agg, pl_list, pl_win, pl_ref, pl_eref, pl_nilptr, pl_fn, pl_nilfn, pl_nils, wk_int, wk_bool, wk_str, wk_list, wk_win, wk_ref, wk_eref, wk_nilptr, wk_fn, wk_nilfn, wk_nils, wkNil_slice, wk_aggE, wkAgg_struct, wkAgg_arr, List.zipWith_cons_cons, List.zipWith_nil_left, argsOK, wks, List.all_cons, List.all_nil, List.nil_append, List.append_nil, List.cons_append, AEx.fin, get_at0, get_at, set_at0, set_at, len_app, List.append_assoc, Nat.add_assoc, ne_eq, not_false_eq_true, not_true_eq_false, reduceIte, if_true, if_false, reduceCtorEq, Nat.reduceAdd, Nat.reduceSub, Nat.reduceEqDiff, Nat.reduceLT, Nat.reduceLeDiff, Nat.reduceBEq, Nat.reduceMul, Int.reduceLT, Int.reduceLE, Int.reduceEq, Int.reduceToNat, Int.reduceMul, Int.reduceNeg, Nat.add_zero, Nat.zero_add, or_true, true_or, or_false, false_or, and_true, true_and, and_false, false_and, and_self, Bool.and_true, Bool.true_and, Bool.and_false, Bool.false_and, Bool.not_true, Bool.not_false, Bool.or_true, Bool.true_or, Bool.or_false, Bool.false_or, Bool.false_eq_true, Bool.true_eq_false, decide_true, decide_false, decide_eq_true_eq, beq_self_eq_true, Nat.add_eq_left, Nat.left_eq_add, Nat.add_left_cancel_iff, List.replicate_zero, List.drop_nil, List.getElem?_cons_zero, List.getElem?_cons_succ, List.set_cons_zero, List.set_cons_succ, Option.map_some, Option.map_none, Option.isNone_none, Option.isNone_some, Option.isSome_none, Option.isSome_some, sh_2, ok_2, zo_2, za_2, ce_2, ro_2, sh_3, ok_3, zo_3, za_3, ce_3, ro_3, sh_4, ok_4, zo_4, za_4, ce_4, ro_4, sh_9, ok_9, zo_9, za_9, ce_9, ro_9, sh_23, ok_23, zo_23, za_23, ce_23, ro_23, sh_25, ok_25, zo_25, za_25, ce_25, ro_25, fl_25, po_25, bodyOf, Option.getD_some, Go.Proofs.Try.f18, fin_tmp, fin_cell, fk_tmp, fk_nil, fk_ct, ck_rd, ck_some, ck_ret, cell_rd, cell_some, cell_ret, res_int, res_bool, take_self, take_app, lq_normal, lq_exit, lq_ret, eFs, List.length_map, cast_lt hlt, in_row hlt, in_row hlt', getD_map eF hx, getD_map eF hy, eF, eqA, eq_Field, hs2, List.zip_cons_cons, List.zip_nil_left, List.foldr_cons, List.foldr_nil, Int.toNat_natCast, wrap_succ hi9]
    | refine bg_yes (fun hb => ?_) (fun hb => ?_)
    | refine bg_no (fun hb => ?_) (fun hb => ?_)
    | refine bo_mk (fun hb => ?_) (fun hb => ?_)
    | refine bp_mk (fun hb => ?_) (fun hb => ?_)
    | refine bd_yes (fun hb => ?_) (fun hb => ?_)
    | refine bd_no (fun hb => ?_) (fun hb => ?_)
    | refine bq_mk (fun hb => ?_) (fun hb => ?_)
    | refine rs_no ?_ ?_
    | refine rs_yes ?_ ?_
    | refine rh_yes ?_ ?_
    | refine ds_no ?_ ?_
    | refine ds_yes ?_ ?_
    | refine dw_mk ?_ ?_
    | refine rs_ite (fun hb => ?_) (fun hb => ?_)
    | refine rh_ite (fun hb => ?_) (fun hb => ?_)
    | refine ds_ite (fun hb => ?_) (fun hb => ?_)
    | refine rq_mk rfl (fun b hb => ?_)
    | refine r_draw (U := [[], [], [], [], [], [], [], [], []]) (H := []) hmix (by kernel_rfl) (by decide +kernel) (by kernel_rfl) ?_
    | refine li_mk ?_ ⟨_, rfl⟩ ?_)
        exact ⟨hlt, none_before2 hx hy hs hinv⟩
      · have hs : Fld.same l[i] m[i] = false := by simpa using hs
        have hs2 := hs
        simp only [Fld.same] at hs2
        repeat' (first
    | simp (implicitDefEqProofs := false) only [env0, List.map_cons, List.map_nil, List.length_cons, List.length_nil, List.take_succ_cons, List.take_zero, List.toList_toArray, r_end, r_seq, r_block, r_region, r_loop, r_cond, r_cond_b, r_bo_t, r_bo_f, r_code_ret, r_code_ex, r_blk_ret, r_blk, r_blk_ex, r_cut, r_op, r_nil, r_skip, r_label, r_exit, r_ret, r_guard, r_g_undef, r_g_b, r_bg_tt, r_bg_ff, r_bg_tf, r_bg_ft, o_assign, o_move, o_pick, rp_b, bp_t, bp_f, bp_b, o_bin, rb_f, rb_eql, rb_neq, isNil_int, isNil_tmp, isNil_bool, isNil_str, isNil_slice, o_load, o_store, o_nilCheck, o_unOp, o_convert, o_extract, o_index, o_indexAddr, o_build, o_fieldAddr, o_field, o_alloc, o_box, rm, rh_new, rh_ret, rh_rd, rhd_some, o_buildSlice, o_makeSlice, o_append, o_len, o_clear, o_min, o_max, o_slice, o_makeFunc, rw_t, o_call, rf_fn, ra_t, d_nil, d_op, d_guard, dg_undef, dg_b, bd_tt, bd_ff, bd_tf, bd_ft, dx, dw_t, dv, tcOf_wr, tcOf_all, ap_wr, ap_all, clear_nil, clear_cons, clr1_some, ds_ret, ds_rd, dd_some, dm_t, do_move, do_assign, do_pick, dp_b, bq_t, bq_f, bq_b, do_load, do_store, do_nilCheck, do_unOp, do_convert, do_extract, do_index, do_indexAddr, do_build, do_fieldAddr, do_field, do_bin, do_slice, do_len, do_clear, do_alloc, do_box, do_buildSlice, do_makeSlice, do_append, do_call, df_fn, da_t, mkO, makes, holeO, apartB, disjB, memB, isE, Tc.isNone, ev, evs, constAV, lk, lkO_some, putD, put, rs_ret, rs_rd, rd_some, wrAll, gslot_0, gslot_succ, pairs, stLoad, stStore, stFieldAddr, stField, stIndexAddr, stIndex, intBin, stBin, stUn, stConv, stLen, stClear, stMin, stBuild, stBuildSlice, stMakeSlice, stNilCheck, stSlice, stAppendTo, stAppend, stBuiltin, stExtract, liveB, getE, getP, setE, setP, fillAV, lenAV, bnd, pIn, isNilB, winGet, nilEq, isSlice, isPtr, ty_int, ty_bool, ty_str, ty_agg, ty_list, ty_win, ty_ref, ty_eref, ty_nilptr, ty_fn, ty_nilfn, ty_nils, pl_int, pl_bool, pl_str, pl_agg, pl_list, pl_win, pl_ref, pl_eref, pl_nilptr, pl_fn, pl_nilfn, pl_nils, wk_int, wk_bool, wk_str, wk_list, wk_win, wk_ref, wk_eref, wk_nilptr, wk_fn, wk_nilfn, wk_nils, wkNil_slice, wk_aggE, wkAgg_struct, wkAgg_arr, List.zipWith_cons_cons, List.zipWith_nil_left, argsOK, wks, List.all_cons, List.all_nil, List.nil_append, List.append_nil, List.cons_append, AEx.fin, get_at0, get_at, set_at0, set_at, len_app, List.append_assoc, Nat.add_assoc, ne_eq, not_false_eq_true, not_true_eq_false, reduceIte, if_true, if_false, reduceCtorEq, Nat.reduceAdd, Nat.reduceSub, Nat.reduceEqDiff, Nat.reduceLT, Nat.reduceLeDiff, Nat.reduceBEq, Nat.reduceMul, Int.reduceLT, Int.reduceLE, Int.reduceEq, Int.reduceToNat, Int.reduceMul, Int.reduceNeg, Nat.add_zero, Nat.zero_add, or_true, true_or, or_false, false_or, and_true, true_and, and_false, false_and, and_self, Bool.and_true, Bool.true_and, Bool.and_false, Bool.false_and, Bool.not_true, Bool.not_false, Bool.or_true, Bool.true_or, Bool.or_false, Bool.false_or, Bool.false_eq_true, Bool.true_eq_false, decide_true, decide_false, decide_eq_true_eq, beq_self_eq_true, Nat.add_eq_left, Nat.left_eq_add, Nat.add_left_cancel_iff, List.replicate_zero, List.drop_nil, List.getElem?_cons_zero, List.getElem?_cons_succ, List.set_cons_zero, List.set_cons_succ, Option.map_some, Option.map_none, Option.isNone_none, Option.isNone_some, Option.isSome_none, Option.isSome_some, sh_2, ok_2, zo_2, za_2, ce_2, ro_2, sh_3, ok_3, zo_3, za_3, ce_3, ro_3, sh_4, ok_4, zo_4, za_4, ce_4, ro_4, sh_9, ok_9, zo_9, za_9, ce_9, ro_9, sh_23, ok_23, zo_23, za_23, ce_23, ro_23, sh_25, ok_25, zo_25, za_25, ce_25, ro_25, fl_25, po_25, bodyOf, Option.getD_some, Go.Proofs.Try.f18, fin_tmp, fin_cell, fk_tmp, fk_nil, fk_ct, ck_rd, ck_some, ck_ret, cell_rd, cell_some, cell_ret, res_int, res_bool, take_self, take_app, lq_normal, lq_exit, lq_ret, eFs, List.length_map, cast_lt hlt, in_row hlt, in_row hlt', getD_map eF hx, getD_map eF hy, eF, eqA, eq_Field, hs2, List.zip_cons_cons, List.zip_nil_left, List.foldr_cons, List.foldr_nil, Int.toNat_natCast, wrap_succ hi9]
    | refine bg_yes (fun hb => ?_) (fun hb => ?_)
    | refine bg_no (fun hb => ?_) (fun hb => ?_)
    | refine bo_mk (fun hb => ?_) (fun hb => ?_)
    | refine bp_mk (fun hb => ?_) (fun hb => ?_)
    | refine bd_yes (fun hb => ?_) (fun hb => ?_)
    | refine bd_no (fun hb => ?_) (fun hb => ?_)
    | refine bq_mk (fun hb => ?_) (fun hb => ?_)
    | refine rs_no ?_ ?_
    | refine rs_yes ?_ ?_
    | refine rh_yes ?_ ?_
    | refine ds_no ?_ ?_
    | refine ds_yes ?_ ?_
    | refine dw_mk ?_ ?_
    | refine rs_ite (fun hb => ?_) (fun hb => ?_)
    | refine rh_ite (fun hb => ?_) (fun hb => ?_)
    | refine ds_ite (fun hb => ?_) (fun hb => ?_)
    | refine rq_mk rfl (fun b hb => ?_)
    | refine r_draw (U := [[], [], [], [], [], [], [], [], []]) (H := []) hmix (by kernel_rfl) (by decide +kernel) (by kernel_rfl) ?_
    | refine li_mk ?_ ⟨_, rfl⟩ ?_)
        rw [all2_false hx hy hs]
    · repeat' (first
    | simp (implicitDefEqProofs := false) only [env0, List.map_cons, List.map_nil, List.length_cons, List.length_nil, List.take_succ_cons, List.take_zero, List.toList_toArray, r_end, r_seq, r_block, r_region, r_loop, r_cond, r_cond_b, r_bo_t, r_bo_f, r_code_ret, r_code_ex, r_blk_ret, r_blk, r_blk_ex, r_cut, r_op, r_nil, r_skip, r_label, r_exit, r_ret, r_guard, r_g_undef, r_g_b, r_bg_tt, r_bg_ff, r_bg_tf, r_bg_ft, o_assign, o_move, o_pick, rp_b, bp_t, bp_f, bp_b, o_bin, rb_f, rb_eql, rb_neq, isNil_int, isNil_tmp, isNil_bool, isNil_str, isNil_slice, o_load, o_store, o_nilCheck, o_unOp, o_convert, o_extract, o_index, o_indexAddr, o_build, o_fieldAddr, o_field, o_alloc, o_box, rm, rh_new, rh_ret, rh_rd, rhd_some, o_buildSlice, o_makeSlice, o_append, o_len, o_clear, o_min, o_max, o_slice, o_makeFunc, rw_t, o_call, rf_fn, ra_t, d_nil, d_op, d_guard, dg_undef, dg_b, bd_tt, bd_ff, bd_tf, bd_ft, dx, dw_t, dv, tcOf_wr, tcOf_all, ap_wr, ap_all, clear_nil, clear_cons, clr1_some, ds_ret, ds_rd, dd_some, dm_t, do_move, do_assign, do_pick, dp_b, bq_t, bq_f, bq_b, do_load, do_store, do_nilCheck, do_unOp, do_convert, do_extract, do_index, do_indexAddr, do_build, do_fieldAddr, do_field, do_bin, do_slice, do_len, do_clear, do_alloc, do_box, do_buildSlice, do_makeSlice, do_append, do_call, df_fn, da_t, mkO, makes, holeO, apartB, disjB, memB, isE, Tc.isNone, ev, evs, constAV, lk, lkO_some, putD, put, rs_ret, rs_rd, rd_some, wrAll, gslot_0, gslot_succ, pairs, stLoad, stStore, stFieldAddr, stField, stIndexAddr, stIndex, intBin, stBin, stUn, stConv, stLen, stClear, stMin, stBuild, stBuildSlice, stMakeSlice, stNilCheck, stSlice, stAppendTo, stAppend, stBuiltin, stExtract, liveB, getE, getP, setE, setP, fillAV, lenAV, bnd, pIn, isNilB, winGet, nilEq, isSlice, isPtr, ty_int, ty_bool, ty_str, ty_agg, ty_list, ty_win, ty_ref, ty_eref, ty_nilptr, ty_fn, ty_nilfn, ty_nils, pl_int, pl_bool, pl_str, pl_agg, pl_list, pl_win, pl_ref, pl_eref, pl_nilptr, pl_fn, pl_nilfn, pl_nils, wk_int, wk_bool, wk_str, wk_list, wk_win, wk_ref, wk_eref, wk_nilptr, wk_fn, wk_nilfn, wk_nils, wkNil_slice, wk_aggE, wkAgg_struct, wkAgg_arr, List.zipWith_cons_cons, List.zipWith_nil_left, argsOK, wks, List.all_cons, List.all_nil, List.nil_append, List.append_nil, List.cons_append, AEx.fin, get_at0, get_at, set_at0, set_at, len_app, List.append_assoc, Nat.add_assoc, ne_eq, not_false_eq_true, not_true_eq_false, reduceIte, if_true, if_false, reduceCtorEq, Nat.reduceAdd, Nat.reduceSub, Nat.reduceEqDiff, Nat.reduceLT, Nat.reduceLeDiff, Nat.reduceBEq, Nat.reduceMul, Int.reduceLT, Int.reduceLE, Int.reduceEq, Int.reduceToNat, Int.reduceMul, Int.reduceNeg, Nat.add_zero, Nat.zero_add, or_true, true_or, or_false, false_or, and_true, true_and, and_false, false_and, and_self, Bool.and_true, Bool.true_and, Bool.and_false, Bool.false_and, Bool.not_true, Bool.not_false, Bool.or_true, Bool.true_or, Bool.or_false, Bool.false_or, Bool.false_eq_true, Bool.true_eq_false, decide_true, decide_false, decide_eq_true_eq, beq_self_eq_true, Nat.add_eq_left, Nat.left_eq_add, Nat.add_left_cancel_iff, List.replicate_zero, List.drop_nil, List.getElem?_cons_zero, List.getElem?_cons_succ, List.set_cons_zero, List.set_cons_succ, Option.map_some, Option.map_none, Option.isNone_none, Option.isNone_some, Option.isSome_none, Option.isSome_some, sh_2, ok_2, zo_2, za_2, ce_2, ro_2, sh_3, ok_3, zo_3, za_3, ce_3, ro_3, sh_4, ok_4, zo_4, za_4, ce_4, ro_4, sh_9, ok_9, zo_9, za_9, ce_9, ro_9, sh_23, ok_23, zo_23, za_23, ce_23, ro_23, sh_25, ok_25, zo_25, za_25, ce_25, ro_25, fl_25, po_25, bodyOf, Option.getD_some, Go.Proofs.Try.f18, fin_tmp, fin_cell, fk_tmp, fk_nil, fk_ct, ck_rd, ck_some, ck_ret, cell_rd, cell_some, cell_ret, res_int, res_bool, take_self, take_app, lq_normal, lq_exit, lq_ret, eFs, List.length_map, cast_ge hlt]
    | refine bg_yes (fun hb => ?_) (fun hb => ?_)
    | refine bg_no (fun hb => ?_) (fun hb => ?_)
    | refine bo_mk (fun hb => ?_) (fun hb => ?_)
    | refine bp_mk (fun hb => ?_) (fun hb => ?_)
    | refine bd_yes (fun hb => ?_) (fun hb => ?_)
    | refine bd_no (fun hb => ?_) (fun hb => ?_)
    | refine bq_mk (fun hb => ?_) (fun hb => ?_)
    | refine rs_no ?_ ?_
    | refine rs_yes ?_ ?_
    | refine rh_yes ?_ ?_
    | refine ds_no ?_ ?_
    | refine ds_yes ?_ ?_
    | refine dw_mk ?_ ?_
    | refine rs_ite (fun hb => ?_) (fun hb => ?_)
    | refine rh_ite (fun hb => ?_) (fun hb => ?_)
    | refine ds_ite (fun hb => ?_) (fun hb => ?_)
    | refine rq_mk rfl (fun b hb => ?_)
    | refine r_draw (U := [[], [], [], [], [], [], [], [], []]) (H := []) hmix (by kernel_rfl) (by decide +kernel) (by kernel_rfl) ?_)
      rw [all2_true hlen fun j x y hj => hinv j x y (by omega)]
  · repeat' (first
    | simp (implicitDefEqProofs := false) only [env0, List.map_cons, List.map_nil, List.length_cons, List.length_nil, List.take_succ_cons, List.take_zero, List.toList_toArray, r_end, r_seq, r_block, r_region, r_loop, r_cond, r_cond_b, r_bo_t, r_bo_f, r_code_ret, r_code_ex, r_blk_ret, r_blk, r_blk_ex, r_cut, r_op, r_nil, r_skip, r_label, r_exit, r_ret, r_guard, r_g_undef, r_g_b, r_bg_tt, r_bg_ff, r_bg_tf, r_bg_ft, o_assign, o_move, o_pick, rp_b, bp_t, bp_f, bp_b, o_bin, rb_f, rb_eql, rb_neq, isNil_int, isNil_tmp, isNil_bool, isNil_str, isNil_slice, o_load, o_store, o_nilCheck, o_unOp, o_convert, o_extract, o_index, o_indexAddr, o_build, o_fieldAddr, o_field, o_alloc, o_box, rm, rh_new, rh_ret, rh_rd, rhd_some, o_buildSlice, o_makeSlice, o_append, o_len, o_clear, o_min, o_max, o_slice, o_makeFunc, rw_t, o_call, rf_fn, ra_t, d_nil, d_op, d_guard, dg_undef, dg_b, bd_tt, bd_ff, bd_tf, bd_ft, dx, dw_t, dv, tcOf_wr, tcOf_all, ap_wr, ap_all, clear_nil, clear_cons, clr1_some, ds_ret, ds_rd, dd_some, dm_t, do_move, do_assign, do_pick, dp_b, bq_t, bq_f, bq_b, do_load, do_store, do_nilCheck, do_unOp, do_convert, do_extract, do_index, do_indexAddr, do_build, do_fieldAddr, do_field, do_bin, do_slice, do_len, do_clear, do_alloc, do_box, do_buildSlice, do_makeSlice, do_append, do_call, df_fn, da_t, mkO, makes, holeO, apartB, disjB, memB, isE, Tc.isNone, ev, evs, constAV, lk, lkO_some, putD, put, rs_ret, rs_rd, rd_some, wrAll, gslot_0, gslot_succ, pairs, stLoad, stStore, stFieldAddr, stField, stIndexAddr, stIndex, intBin, stBin, stUn, stConv, stLen, stClear, stMin, stBuild, stBuildSlice, stMakeSlice, stNilCheck, stSlice, stAppendTo, stAppend, stBuiltin, stExtract, liveB, getE, getP, setE, setP, fillAV, lenAV, bnd, pIn, isNilB, winGet, nilEq, isSlice, isPtr, ty_int, ty_bool, ty_str, ty_agg, ty_list, ty_win, ty_ref, ty_eref, ty_nilptr, ty_fn, ty_nilfn, ty_nils, pl_int, pl_bool, pl_str, pl_agg, pl_list, pl_win, pl_ref, pl_eref, pl_nilptr, pl_fn, pl_nilfn, pl_nils, wk_int, wk_bool, wk_str, wk_list, wk_win, wk_ref, wk_eref, wk_nilptr, wk_fn, wk_nilfn, wk_nils, wkNil_slice, wk_aggE, wkAgg_struct, wkAgg_arr, List.zipWith_cons_cons, List.zipWith_nil_left, argsOK, wks, List.all_cons, List.all_nil, List.nil_append, List.append_nil, List.cons_append, AEx.fin, get_at0, get_at, set_at0, set_at, len_app, List.append_assoc, Nat.add_assoc, ne_eq, not_false_eq_true, not_true_eq_false, reduceIte, if_true, if_false, reduceCtorEq, Nat.reduceAdd, Nat.reduceSub, Nat.reduceEqDiff, Nat.reduceLT, Nat.reduceLeDiff, Nat.reduceBEq, Nat.reduceMul, Int.reduceLT, Int.reduceLE, Int.reduceEq, Int.reduceToNat, Int.reduceMul, Int.reduceNeg, Nat.add_zero, Nat.zero_add, or_true, true_or, or_false, false_or, and_true, true_and, and_false, false_and, and_self, Bool.and_true, Bool.true_and, Bool.and_false, Bool.false_and, Bool.not_true, Bool.not_false, Bool.or_true, Bool.true_or, Bool.or_false, Bool.false_or, Bool.false_eq_true, Bool.true_eq_false, decide_true, decide_false, decide_eq_true_eq, beq_self_eq_true, Nat.add_eq_left, Nat.left_eq_add, Nat.add_left_cancel_iff, List.replicate_zero, List.drop_nil, List.getElem?_cons_zero, List.getElem?_cons_succ, List.set_cons_zero, List.set_cons_succ, Option.map_some, Option.map_none, Option.isNone_none, Option.isNone_some, Option.isSome_none, Option.isSome_some, sh_2, ok_2, zo_2, za_2, ce_2, ro_2, sh_3, ok_3, zo_3, za_3, ce_3, ro_3, sh_4, ok_4, zo_4, za_4, ce_4, ro_4, sh_9, ok_9, zo_9, za_9, ce_9, ro_9, sh_23, ok_23, zo_23, za_23, ce_23, ro_23, sh_25, ok_25, zo_25, za_25, ce_25, ro_25, fl_25, po_25, bodyOf, Option.getD_some, Go.Proofs.Try.f18, fin_tmp, fin_cell, fk_tmp, fk_nil, fk_ct, ck_rd, ck_some, ck_ret, cell_rd, cell_some, cell_ret, res_int, res_bool, take_self, take_app, lq_normal, lq_exit, lq_ret, eFs, List.length_map, neq_len hlen]
    | refine bg_yes (fun hb => ?_) (fun hb => ?_)
    | refine bg_no (fun hb => ?_) (fun hb => ?_)
    | refine bo_mk (fun hb => ?_) (fun hb => ?_)
    | refine bp_mk (fun hb => ?_) (fun hb => ?_)
    | refine bd_yes (fun hb => ?_) (fun hb => ?_)
    | refine bd_no (fun hb => ?_) (fun hb => ?_)
    | refine bq_mk (fun hb => ?_) (fun hb => ?_)
    | refine rs_no ?_ ?_
    | refine rs_yes ?_ ?_
    | refine rh_yes ?_ ?_
    | refine ds_no ?_ ?_
    | refine ds_yes ?_ ?_
    | refine dw_mk ?_ ?_
    | refine rs_ite (fun hb => ?_) (fun hb => ?_)
    | refine rh_ite (fun hb => ?_) (fun hb => ?_)
    | refine ds_ite (fun hb => ?_) (fun hb => ?_)
    | refine rq_mk rfl (fun b hb => ?_)
    | refine r_draw (U := [[], [], [], [], [], [], [], [], []]) (H := []) hmix (by kernel_rfl) (by decide +kernel) (by kernel_rfl) ?_)
    rw [all2_length hlen]

end Go.Abs
