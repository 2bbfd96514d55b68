/- Sp2: a part of the proofs about the tuple space (layer 8). -/
import Derived.Test.YtelohjfiojpeeaaSp1
set_option linter.all false
set_option maxRecDepth 100000
set_option maxHeartbeats 0
namespace Go.Abs
open Go
open Go.Proofs.Try (prog)
/-! ### finding -/
theorem c_IndexFunc_Item {α : Type} (e : α → AV) (l : List α) {g : FuncId} {caps : List AV} (p : α → Bool) (hl : l.length ≤ 4294967296) (hty : ∀ x, tyB prog (e x) 74 = true) (hpl : ∀ x, plainAV (e x) = true) (hwk : ∀ x, wk prog 6 74 (e x) = e x)
    (hp : ∀ x ∈ l, Fn prog g (e x :: caps) (.bool (p x))) : Fn prog 43 [.list 74 (l.map e), .fn g caps] (.int .i64 (fidx p l)) := by
  refine run_43 rfl fun h => ?_
  repeat' (first
    | simp (implicitDefEqProofs := false) only [env0, List.map_cons, List.map_nil, List.length_cons, List.length_nil, List.take_succ_cons, List.take_zero, List.toList_toArray, r_end, r_seq, r_block, r_region, r_loop, r_cond, r_cond_b, r_bo_t, r_bo_f, r_code_ret, r_code_ex, r_blk_ret, r_blk, r_blk_ex, r_cut, r_op, r_nil, r_skip, r_label, r_exit, r_ret, r_guard, r_g_undef, r_g_b, r_bg_tt, r_bg_ff, r_bg_tf, r_bg_ft, o_assign, o_move, o_pick, rp_b, bp_t, bp_f, bp_b, o_bin, rb_f, rb_eql, rb_neq, isNil_int, isNil_tmp, isNil_bool, isNil_str, isNil_slice, o_load, o_store, o_nilCheck, o_unOp, o_convert, o_extract, o_index, o_indexAddr, o_build, o_fieldAddr, o_field, o_alloc, o_box, rm, rh_new, rh_ret, rh_rd, rhd_some, o_buildSlice, o_makeSlice, o_append, o_len, o_clear, o_min, o_max, o_slice, o_makeFunc, rw_t, o_call, rf_fn, ra_t, d_nil, d_op, d_guard, dg_undef, dg_b, bd_tt, bd_ff, bd_tf, bd_ft, dx, dw_t, dv, tcOf_wr, tcOf_all, ap_wr, ap_all, clear_nil, clear_cons, clr1_some, ds_ret, ds_rd, dd_some, dm_t, do_move, do_assign, do_pick, dp_b, bq_t, bq_f, bq_b, do_load, do_store, do_nilCheck, do_unOp, do_convert, do_extract, do_index, do_indexAddr, do_build, do_fieldAddr, do_field, do_bin, do_slice, do_len, do_clear, do_alloc, do_box, do_buildSlice, do_makeSlice, do_append, do_call, df_fn, da_t, mkO, makes, holeO, apartB, disjB, memB, isE, Tc.isNone, ev, evs, constAV, lk, lkO_some, putD, put, rs_ret, rs_rd, rd_some, wrAll, gslot_0, gslot_succ, pairs, stLoad, stStore, stFieldAddr, stField, stIndexAddr, stIndex, intBin, stBin, stUn, stConv, stLen, stClear, stMin, stBuild, stBuildSlice, stMakeSlice, stNilCheck, stSlice, stAppendTo, stAppend, stBuiltin, stExtract, liveB, getE, getP, setE, setP, fillAV, lenAV, bnd, pIn, isNilB, winGet, nilEq, isSlice, isPtr, ty_int, ty_bool, ty_str, ty_agg, ty_list, ty_win, ty_ref, ty_eref, ty_nilptr, ty_fn, ty_nilfn, ty_nils, pl_int, pl_bool, pl_str, pl_agg, pl_list, pl_win, pl_ref, pl_eref, pl_nilptr, pl_fn, pl_nilfn, pl_nils, wk_int, wk_bool, wk_str, wk_list, wk_win, wk_ref, wk_eref, wk_nilptr, wk_fn, wk_nilfn, wk_nils, wkNil_slice, wk_aggE, wkAgg_struct, wkAgg_arr, List.zipWith_cons_cons, List.zipWith_nil_left, argsOK, wks, List.all_cons, List.all_nil, List.nil_append, List.append_nil, List.cons_append, AEx.fin, get_at0, get_at, set_at0, set_at, len_app, List.append_assoc, Nat.add_assoc, ne_eq, not_false_eq_true, not_true_eq_false, reduceIte, if_true, if_false, reduceCtorEq, Nat.reduceAdd, Nat.reduceSub, Nat.reduceEqDiff, Nat.reduceLT, Nat.reduceLeDiff, Nat.reduceBEq, Nat.reduceMul, Int.reduceLT, Int.reduceLE, Int.reduceEq, Int.reduceToNat, Int.reduceMul, Int.reduceNeg, Nat.add_zero, Nat.zero_add, or_true, true_or, or_false, false_or, and_true, true_and, and_false, false_and, and_self, Bool.and_true, Bool.true_and, Bool.and_false, Bool.false_and, Bool.not_true, Bool.not_false, Bool.or_true, Bool.true_or, Bool.or_false, Bool.false_or, Bool.false_eq_true, Bool.true_eq_false, decide_true, decide_false, decide_eq_true_eq, beq_self_eq_true, Nat.add_eq_left, Nat.left_eq_add, Nat.add_left_cancel_iff, List.replicate_zero, List.drop_nil, List.getElem?_cons_zero, List.getElem?_cons_succ, List.set_cons_zero, List.set_cons_succ, Option.map_some, Option.map_none, Option.isNone_none, Option.isNone_some, Option.isSome_none, Option.isSome_some, sh_2, ok_2, zo_2, za_2, ce_2, ro_2, sh_3, ok_3, zo_3, za_3, ce_3, ro_3, sh_4, ok_4, zo_4, za_4, ce_4, ro_4, sh_9, ok_9, zo_9, za_9, ce_9, ro_9, sh_23, ok_23, zo_23, za_23, ce_23, ro_23, sh_25, ok_25, zo_25, za_25, ce_25, ro_25, fl_25, po_25, sh_27, ok_27, zo_27, za_27, ce_27, ro_27, sh_74, ok_74, zo_74, za_74, ce_74, ro_74, fl_74, po_74, sh_76, ok_76, zo_76, za_76, ce_76, ro_76, bodyOf, Option.getD_some, Go.Proofs.Try.f43, fin_tmp, fin_cell, fk_tmp, fk_nil, fk_ct, ck_rd, ck_some, ck_ret, cell_rd, cell_some, cell_ret, res_int, res_bool, take_self, take_app, lq_normal, lq_exit, lq_ret, List.length_map]
    | refine bg_yes (fun hb => ?_) (fun hb => ?_)
    | refine bg_no (fun hb => ?_) (fun hb => ?_)
    | refine bo_mk (fun hb => ?_) (fun hb => ?_)
    | refine bp_mk (fun hb => ?_) (fun hb => ?_)
    | refine bd_yes (fun hb => ?_) (fun hb => ?_)
    | refine bd_no (fun hb => ?_) (fun hb => ?_)
    | refine bq_mk (fun hb => ?_) (fun hb => ?_)
    | refine rs_no ?_ ?_
    | refine rs_yes ?_ ?_
    | refine rh_yes ?_ ?_
    | refine ds_no ?_ ?_
    | refine ds_yes ?_ ?_
    | refine dw_mk ?_ ?_
    | refine rs_ite (fun hb => ?_) (fun hb => ?_)
    | refine rh_ite (fun hb => ?_) (fun hb => ?_)
    | refine ds_ite (fun hb => ?_) (fun hb => ?_)
    | refine rq_mk rfl (fun b hb => ?_))
  refine rl_count (fun i a => [(0, .list 74 (l.map e)), (1, .fn g caps), (4, .int .i64 0), (5, a 5), (7, .int .i64 l.length), (8, .int .i64 i), (9, a 9), (16, a 16)]) (fun _ _ => h) (fun i => i ≤ l.length ∧ ∀ j x, j < i → l[j]? = some x → p x = false) l.length (li_mk rfl ⟨[], rfl⟩ ⟨Nat.zero_le _, fun j x hj => by omega⟩) ?_
  rintro i a g' ⟨hi, hinv⟩
  refine ⟨hi, ?_⟩
  by_cases hlt : i < l.length
  · have hx : l[i]? = some l[i] := List.getElem?_eq_getElem hlt
    repeat' (first
    | simp (implicitDefEqProofs := false) only [env0, List.map_cons, List.map_nil, List.length_cons, List.length_nil, List.take_succ_cons, List.take_zero, List.toList_toArray, r_end, r_seq, r_block, r_region, r_loop, r_cond, r_cond_b, r_bo_t, r_bo_f, r_code_ret, r_code_ex, r_blk_ret, r_blk, r_blk_ex, r_cut, r_op, r_nil, r_skip, r_label, r_exit, r_ret, r_guard, r_g_undef, r_g_b, r_bg_tt, r_bg_ff, r_bg_tf, r_bg_ft, o_assign, o_move, o_pick, rp_b, bp_t, bp_f, bp_b, o_bin, rb_f, rb_eql, rb_neq, isNil_int, isNil_tmp, isNil_bool, isNil_str, isNil_slice, o_load, o_store, o_nilCheck, o_unOp, o_convert, o_extract, o_index, o_indexAddr, o_build, o_fieldAddr, o_field, o_alloc, o_box, rm, rh_new, rh_ret, rh_rd, rhd_some, o_buildSlice, o_makeSlice, o_append, o_len, o_clear, o_min, o_max, o_slice, o_makeFunc, rw_t, o_call, rf_fn, ra_t, d_nil, d_op, d_guard, dg_undef, dg_b, bd_tt, bd_ff, bd_tf, bd_ft, dx, dw_t, dv, tcOf_wr, tcOf_all, ap_wr, ap_all, clear_nil, clear_cons, clr1_some, ds_ret, ds_rd, dd_some, dm_t, do_move, do_assign, do_pick, dp_b, bq_t, bq_f, bq_b, do_load, do_store, do_nilCheck, do_unOp, do_convert, do_extract, do_index, do_indexAddr, do_build, do_fieldAddr, do_field, do_bin, do_slice, do_len, do_clear, do_alloc, do_box, do_buildSlice, do_makeSlice, do_append, do_call, df_fn, da_t, mkO, makes, holeO, apartB, disjB, memB, isE, Tc.isNone, ev, evs, constAV, lk, lkO_some, putD, put, rs_ret, rs_rd, rd_some, wrAll, gslot_0, gslot_succ, pairs, stLoad, stStore, stFieldAddr, stField, stIndexAddr, stIndex, intBin, stBin, stUn, stConv, stLen, stClear, stMin, stBuild, stBuildSlice, stMakeSlice, stNilCheck, stSlice, stAppendTo, stAppend, stBuiltin, stExtract, liveB, getE, getP, setE, setP, fillAV, lenAV, bnd, pIn, isNilB, winGet, nilEq, isSlice, isPtr, ty_int, ty_bool, ty_str, ty_agg, ty_list, ty_win, ty_ref, ty_eref, ty_nilptr, ty_fn, ty_nilfn, ty_nils, pl_int, pl_bool, pl_str, pl_agg, pl_list, pl_win, pl_ref, pl_eref, pl_nilptr, pl_fn, pl_nilfn, pl_nils, wk_int, wk_bool, wk_str, wk_list, wk_win, wk_ref, wk_eref, wk_nilptr, wk_fn, wk_nilfn, wk_nils, wkNil_slice, wk_aggE, wkAgg_struct, wkAgg_arr, List.zipWith_cons_cons, List.zipWith_nil_left, argsOK, wks, List.all_cons, List.all_nil, List.nil_append, List.append_nil, List.cons_append, AEx.fin, get_at0, get_at, set_at0, set_at, len_app, List.append_assoc, Nat.add_assoc, ne_eq, not_false_eq_true, not_true_eq_false, reduceIte, if_true, if_false, reduceCtorEq, Nat.reduceAdd, Nat.reduceSub, Nat.reduceEqDiff, Nat.reduceLT, Nat.reduceLeDiff, Nat.reduceBEq, Nat.reduceMul, Int.reduceLT, Int.reduceLE, Int.reduceEq, Int.reduceToNat, Int.reduceMul, Int.reduceNeg, Nat.add_zero, Nat.zero_add, or_true, true_or, or_false, false_or, and_true, true_and, and_false, false_and, and_self, Bool.and_true, Bool.true_and, Bool.and_false, Bool.false_and, Bool.not_true, Bool.not_false, Bool.or_true, Bool.true_or, Bool.or_false, Bool.false_or, Bool.false_eq_true, Bool.true_eq_false, decide_true, decide_false, decide_eq_true_eq, beq_self_eq_true, Nat.add_eq_left, Nat.left_eq_add, Nat.add_left_cancel_iff, List.replicate_zero, List.drop_nil, List.getElem?_cons_zero, List.getElem?_cons_succ, List.set_cons_zero, List.set_cons_succ, Option.map_some, Option.map_none, Option.isNone_none, Option.isNone_some, Option.isSome_none, Option.isSome_some, sh_2, ok_2, zo_2, za_2, ce_2, ro_2, sh_3, ok_3, zo_3, za_3, ce_3, ro_3, sh_4, ok_4, zo_4, za_4, ce_4, ro_4, sh_9, ok_9, zo_9, za_9, ce_9, ro_9, sh_23, ok_23, zo_23, za_23, ce_23, ro_23, sh_25, ok_25, zo_25, za_25, ce_25, ro_25, fl_25, po_25, sh_27, ok_27, zo_27, za_27, ce_27, ro_27, sh_74, ok_74, zo_74, za_74, ce_74, ro_74, fl_74, po_74, sh_76, ok_76, zo_76, za_76, ce_76, ro_76, bodyOf, Option.getD_some, Go.Proofs.Try.f43, fin_tmp, fin_cell, fk_tmp, fk_nil, fk_ct, ck_rd, ck_some, ck_ret, cell_rd, cell_some, cell_ret, res_int, res_bool, take_self, take_app, lq_normal, lq_exit, lq_ret, List.length_map, cast_lt hlt, in_row hlt, getD_map e hx, Int.toNat_natCast, hty, hpl, hwk, wrap_succ (show i < 9223372036854775807 by omega)]
    | refine bg_yes (fun hb => ?_) (fun hb => ?_)
    | refine bg_no (fun hb => ?_) (fun hb => ?_)
    | refine bo_mk (fun hb => ?_) (fun hb => ?_)
    | refine bp_mk (fun hb => ?_) (fun hb => ?_)
    | refine bd_yes (fun hb => ?_) (fun hb => ?_)
    | refine bd_no (fun hb => ?_) (fun hb => ?_)
    | refine bq_mk (fun hb => ?_) (fun hb => ?_)
    | refine rs_no ?_ ?_
    | refine rs_yes ?_ ?_
    | refine rh_yes ?_ ?_
    | refine ds_no ?_ ?_
    | refine ds_yes ?_ ?_
    | refine dw_mk ?_ ?_
    | refine rs_ite (fun hb => ?_) (fun hb => ?_)
    | refine rh_ite (fun hb => ?_) (fun hb => ?_)
    | refine ds_ite (fun hb => ?_) (fun hb => ?_)
    | refine rq_mk rfl (fun b hb => ?_)
    | refine k_fn (hp _ (List.getElem_mem hlt)) ?_
    | refine li_mk ?_ ⟨[], rfl⟩ ?_)
    · rw [fidx_some hx ‹_› hinv]
    · exact ⟨hlt, none_before hx ‹_› hinv⟩
  · repeat' (first
    | simp (implicitDefEqProofs := false) only [env0, List.map_cons, List.map_nil, List.length_cons, List.length_nil, List.take_succ_cons, List.take_zero, List.toList_toArray, r_end, r_seq, r_block, r_region, r_loop, r_cond, r_cond_b, r_bo_t, r_bo_f, r_code_ret, r_code_ex, r_blk_ret, r_blk, r_blk_ex, r_cut, r_op, r_nil, r_skip, r_label, r_exit, r_ret, r_guard, r_g_undef, r_g_b, r_bg_tt, r_bg_ff, r_bg_tf, r_bg_ft, o_assign, o_move, o_pick, rp_b, bp_t, bp_f, bp_b, o_bin, rb_f, rb_eql, rb_neq, isNil_int, isNil_tmp, isNil_bool, isNil_str, isNil_slice, o_load, o_store, o_nilCheck, o_unOp, o_convert, o_extract, o_index, o_indexAddr, o_build, o_fieldAddr, o_field, o_alloc, o_box, rm, rh_new, rh_ret, rh_rd, rhd_some, o_buildSlice, o_makeSlice, o_append, o_len, o_clear, o_min, o_max, o_slice, o_makeFunc, rw_t, o_call, rf_fn, ra_t, d_nil, d_op, d_guard, dg_undef, dg_b, bd_tt, bd_ff, bd_tf, bd_ft, dx, dw_t, dv, tcOf_wr, tcOf_all, ap_wr, ap_all, clear_nil, clear_cons, clr1_some, ds_ret, ds_rd, dd_some, dm_t, do_move, do_assign, do_pick, dp_b, bq_t, bq_f, bq_b, do_load, do_store, do_nilCheck, do_unOp, do_convert, do_extract, do_index, do_indexAddr, do_build, do_fieldAddr, do_field, do_bin, do_slice, do_len, do_clear, do_alloc, do_box, do_buildSlice, do_makeSlice, do_append, do_call, df_fn, da_t, mkO, makes, holeO, apartB, disjB, memB, isE, Tc.isNone, ev, evs, constAV, lk, lkO_some, putD, put, rs_ret, rs_rd, rd_some, wrAll, gslot_0, gslot_succ, pairs, stLoad, stStore, stFieldAddr, stField, stIndexAddr, stIndex, intBin, stBin, stUn, stConv, stLen, stClear, stMin, stBuild, stBuildSlice, stMakeSlice, stNilCheck, stSlice, stAppendTo, stAppend, stBuiltin, stExtract, liveB, getE, getP, setE, setP, fillAV, lenAV, bnd, pIn, isNilB, winGet, nilEq, isSlice, isPtr, ty_int, ty_bool, ty_str, ty_agg, ty_list, ty_win, ty_ref, ty_eref, ty_nilptr, ty_fn, ty_nilfn, ty_nils, pl_int, pl_bool, pl_str, pl_agg, pl_list, pl_win, pl_ref, pl_eref, pl_nilptr, pl_fn, pl_nilfn, pl_nils, wk_int, wk_bool, wk_str, wk_list, wk_win, wk_ref, wk_eref, wk_nilptr, wk_fn, wk_nilfn, wk_nils, wkNil_slice, wk_aggE, wkAgg_struct, wkAgg_arr, List.zipWith_cons_cons, List.zipWith_nil_left, argsOK, wks, List.all_cons, List.all_nil, List.nil_append, List.append_nil, List.cons_append, AEx.fin, get_at0, get_at, set_at0, set_at, len_app, List.append_assoc, Nat.add_assoc, ne_eq, not_false_eq_true, not_true_eq_false, reduceIte, if_true, if_false, reduceCtorEq, Nat.reduceAdd, Nat.reduceSub, Nat.reduceEqDiff, Nat.reduceLT, Nat.reduceLeDiff, Nat.reduceBEq, Nat.reduceMul, Int.reduceLT, Int.reduceLE, Int.reduceEq, Int.reduceToNat, Int.reduceMul, Int.reduceNeg, Nat.add_zero, Nat.zero_add, or_true, true_or, or_false, false_or, and_true, true_and, and_false, false_and, and_self, Bool.and_true, Bool.true_and, Bool.and_false, Bool.false_and, Bool.not_true, Bool.not_false, Bool.or_true, Bool.true_or, Bool.or_false, Bool.false_or, Bool.false_eq_true, Bool.true_eq_false, decide_true, decide_false, decide_eq_true_eq, beq_self_eq_true, Nat.add_eq_left, Nat.left_eq_add, Nat.add_left_cancel_iff, List.replicate_zero, List.drop_nil, List.getElem?_cons_zero, List.getElem?_cons_succ, List.set_cons_zero, List.set_cons_succ, Option.map_some, Option.map_none, Option.isNone_none, Option.isNone_some, Option.isSome_none, Option.isSome_some, sh_2, ok_2, zo_2, za_2, ce_2, ro_2, sh_3, ok_3, zo_3, za_3, ce_3, ro_3, sh_4, ok_4, zo_4, za_4, ce_4, ro_4, sh_9, ok_9, zo_9, za_9, ce_9, ro_9, sh_23, ok_23, zo_23, za_23, ce_23, ro_23, sh_25, ok_25, zo_25, za_25, ce_25, ro_25, fl_25, po_25, sh_27, ok_27, zo_27, za_27, ce_27, ro_27, sh_74, ok_74, zo_74, za_74, ce_74, ro_74, fl_74, po_74, sh_76, ok_76, zo_76, za_76, ce_76, ro_76, bodyOf, Option.getD_some, Go.Proofs.Try.f43, fin_tmp, fin_cell, fk_tmp, fk_nil, fk_ct, ck_rd, ck_some, ck_ret, cell_rd, cell_some, cell_ret, res_int, res_bool, take_self, take_app, lq_normal, lq_exit, lq_ret, List.length_map, cast_ge hlt]
    | refine bg_yes (fun hb => ?_) (fun hb => ?_)
    | refine bg_no (fun hb => ?_) (fun hb => ?_)
    | refine bo_mk (fun hb => ?_) (fun hb => ?_)
    | refine bp_mk (fun hb => ?_) (fun hb => ?_)
    | refine bd_yes (fun hb => ?_) (fun hb => ?_)
    | refine bd_no (fun hb => ?_) (fun hb => ?_)
    | refine bq_mk (fun hb => ?_) (fun hb => ?_)
    | refine rs_no ?_ ?_
    | refine rs_yes ?_ ?_
    | refine rh_yes ?_ ?_
    | refine ds_no ?_ ?_
    | refine ds_yes ?_ ?_
    | refine dw_mk ?_ ?_
    | refine rs_ite (fun hb => ?_) (fun hb => ?_)
    | refine rh_ite (fun hb => ?_) (fun hb => ?_)
    | refine ds_ite (fun hb => ?_) (fun hb => ?_)
    | refine rq_mk rfl (fun b hb => ?_))
    rw [fidx_none fun j y hj hy => hinv j y (by omega) hy]


/-- tuples of a size that the model's own bounds let in -/
def smallI (l : List Itm) : Prop := l.length ≤ 4294967296 ∧ ∀ x ∈ l, x.T.length ≤ 4294967296
def smallW (l : List Wtr) : Prop := l.length ≤ 4294967296 ∧ ∀ x ∈ l, x.P.length ≤ 4294967296
def smallR (l : List Rpl) : Prop := l.length ≤ 4294967296 ∧ ∀ x ∈ l, x.T.length ≤ 4294967296
structure Spc.Small (s : Spc) : Prop where
  items : smallI s.Items
  waiters : smallW s.Waiters
  last : smallR s.Last
  four : s.Last.length = 4

def findS (s : Spc) (p : List Fld) : Int := fidx (fun x => matchT p x.T) s.Items
theorem c_Find (s : Spc) (p : List Fld) (hs : smallI s.Items) (hp : p.length ≤ 4294967296) : Fn prog 19 [eS s, eFs p] (.int .i64 (findS s p)) := by
  refine run_19 rfl fun h => ?_
  repeat' (first
    | simp (implicitDefEqProofs := false) only [env0, List.map_cons, List.map_nil, List.length_cons, List.length_nil, List.take_succ_cons, List.take_zero, List.toList_toArray, r_end, r_seq, r_block, r_region, r_loop, r_cond, r_cond_b, r_bo_t, r_bo_f, r_code_ret, r_code_ex, r_blk_ret, r_blk, r_blk_ex, r_cut, r_op, r_nil, r_skip, r_label, r_exit, r_ret, r_guard, r_g_undef, r_g_b, r_bg_tt, r_bg_ff, r_bg_tf, r_bg_ft, o_assign, o_move, o_pick, rp_b, bp_t, bp_f, bp_b, o_bin, rb_f, rb_eql, rb_neq, isNil_int, isNil_tmp, isNil_bool, isNil_str, isNil_slice, o_load, o_store, o_nilCheck, o_unOp, o_convert, o_extract, o_index, o_indexAddr, o_build, o_fieldAddr, o_field, o_alloc, o_box, rm, rh_new, rh_ret, rh_rd, rhd_some, o_buildSlice, o_makeSlice, o_append, o_len, o_clear, o_min, o_max, o_slice, o_makeFunc, rw_t, o_call, rf_fn, ra_t, d_nil, d_op, d_guard, dg_undef, dg_b, bd_tt, bd_ff, bd_tf, bd_ft, dx, dw_t, dv, tcOf_wr, tcOf_all, ap_wr, ap_all, clear_nil, clear_cons, clr1_some, ds_ret, ds_rd, dd_some, dm_t, do_move, do_assign, do_pick, dp_b, bq_t, bq_f, bq_b, do_load, do_store, do_nilCheck, do_unOp, do_convert, do_extract, do_index, do_indexAddr, do_build, do_fieldAddr, do_field, do_bin, do_slice, do_len, do_clear, do_alloc, do_box, do_buildSlice, do_makeSlice, do_append, do_call, df_fn, da_t, mkO, makes, holeO, apartB, disjB, memB, isE, Tc.isNone, ev, evs, constAV, lk, lkO_some, putD, put, rs_ret, rs_rd, rd_some, wrAll, gslot_0, gslot_succ, pairs, stLoad, stStore, stFieldAddr, stField, stIndexAddr, stIndex, intBin, stBin, stUn, stConv, stLen, stClear, stMin, stBuild, stBuildSlice, stMakeSlice, stNilCheck, stSlice, stAppendTo, stAppend, stBuiltin, stExtract, liveB, getE, getP, setE, setP, fillAV, lenAV, bnd, pIn, isNilB, winGet, nilEq, isSlice, isPtr, ty_int, ty_bool, ty_str, ty_agg, ty_list, ty_win, ty_ref, ty_eref, ty_nilptr, ty_fn, ty_nilfn, ty_nils, pl_int, pl_bool, pl_str, pl_agg, pl_list, pl_win, pl_ref, pl_eref, pl_nilptr, pl_fn, pl_nilfn, pl_nils, wk_int, wk_bool, wk_str, wk_list, wk_win, wk_ref, wk_eref, wk_nilptr, wk_fn, wk_nilfn, wk_nils, wkNil_slice, wk_aggE, wkAgg_struct, wkAgg_arr, List.zipWith_cons_cons, List.zipWith_nil_left, argsOK, wks, List.all_cons, List.all_nil, List.nil_append, List.append_nil, List.cons_append, AEx.fin, get_at0, get_at, set_at0, set_at, len_app, List.append_assoc, Nat.add_assoc, ne_eq, not_false_eq_true, not_true_eq_false, reduceIte, if_true, if_false, reduceCtorEq, Nat.reduceAdd, Nat.reduceSub, Nat.reduceEqDiff, Nat.reduceLT, Nat.reduceLeDiff, Nat.reduceBEq, Nat.reduceMul, Int.reduceLT, Int.reduceLE, Int.reduceEq, Int.reduceToNat, Int.reduceMul, Int.reduceNeg, Nat.add_zero, Nat.zero_add, or_true, true_or, or_false, false_or, and_true, true_and, and_false, false_and, and_self, Bool.and_true, Bool.true_and, Bool.and_false, Bool.false_and, Bool.not_true, Bool.not_false, Bool.or_true, Bool.true_or, Bool.or_false, Bool.false_or, Bool.false_eq_true, Bool.true_eq_false, decide_true, decide_false, decide_eq_true_eq, beq_self_eq_true, Nat.add_eq_left, Nat.left_eq_add, Nat.add_left_cancel_iff, List.replicate_zero, List.drop_nil, List.getElem?_cons_zero, List.getElem?_cons_succ, List.set_cons_zero, List.set_cons_succ, Option.map_some, Option.map_none, Option.isNone_none, Option.isNone_some, Option.isSome_none, Option.isSome_some, sh_2, ok_2, zo_2, za_2, ce_2, ro_2, sh_3, ok_3, zo_3, za_3, ce_3, ro_3, sh_4, ok_4, zo_4, za_4, ce_4, ro_4, sh_9, ok_9, zo_9, za_9, ce_9, ro_9, sh_23, ok_23, zo_23, za_23, ce_23, ro_23, sh_25, ok_25, zo_25, za_25, ce_25, ro_25, fl_25, po_25, sh_27, ok_27, zo_27, za_27, ce_27, ro_27, sh_28, ok_28, zo_28, za_28, ce_28, ro_28, sh_30, ok_30, zo_30, za_30, ce_30, ro_30, fl_30, po_30, sh_31, ok_31, zo_31, za_31, ce_31, ro_31, po_31, sh_33, ok_33, zo_33, za_33, ce_33, ro_33, fl_33, po_33, sh_50, ok_50, zo_50, za_50, ce_50, ro_50, fl_50, po_50, sh_74, ok_74, zo_74, za_74, ce_74, ro_74, fl_74, po_74, sh_76, ok_76, zo_76, za_76, ce_76, ro_76, bodyOf, Option.getD_some, Go.Proofs.Try.f19, fin_tmp, fin_cell, fk_tmp, fk_nil, fk_ct, ck_rd, ck_some, ck_ret, cell_rd, cell_some, cell_ret, res_int, res_bool, take_self, take_app, lq_normal, lq_exit, lq_ret, eS, eFs, eIs, List.length_map]
    | refine bg_yes (fun hb => ?_) (fun hb => ?_)
    | refine bg_no (fun hb => ?_) (fun hb => ?_)
    | refine bo_mk (fun hb => ?_) (fun hb => ?_)
    | refine bp_mk (fun hb => ?_) (fun hb => ?_)
    | refine bd_yes (fun hb => ?_) (fun hb => ?_)
    | refine bd_no (fun hb => ?_) (fun hb => ?_)
    | refine bq_mk (fun hb => ?_) (fun hb => ?_)
    | refine rs_no ?_ ?_
    | refine rs_yes ?_ ?_
    | refine rh_yes ?_ ?_
    | refine ds_no ?_ ?_
    | refine ds_yes ?_ ?_
    | refine dw_mk ?_ ?_
    | refine rs_ite (fun hb => ?_) (fun hb => ?_)
    | refine rh_ite (fun hb => ?_) (fun hb => ?_)
    | refine ds_ite (fun hb => ?_) (fun hb => ?_)
    | refine rq_mk rfl (fun b hb => ?_)
    | refine k_borrow wfp (args' := [.list 74 (s.Items.map eI), .fn 44 [.eref 23 (eFs p)]]) ?_ (c_IndexFunc_Item eI s.Items (fun x => matchT p x.T) hs.1 eI_ty eI_pl eI_wk fun x hx => c_Find1 x p (hs.2 x hx) hp) ?_ rfl ?_)
  · simp only [List.map_cons, List.map_nil, dat_bw _ 8 (show dat (.list 74 (s.Items.map eI)) = true from eIs_dat s.Items), bw_fnE, bw_refE, get_at0, get_at, List.getElem?_cons_zero, List.getElem?_cons_succ, bwRef_own, getE, getP, bwRefO_some, dat_bw _ 6 (eFs_dat p)]
  · simp only [List.all_cons, List.all_nil, below, belowL, datL_below _ (datL_map eI eI_dat s.Items), datL_below _ (datL_map eF eF_dat p), eFs, Bool.and_self]
  all_goals rfl

def rp0 (c : Int) : AV := .agg 30 [.int .i64 c, .int .i64 0, .int .i64 0, .nils, .bool false]
def lst (i : Nat) : List AV := [rp0 0, rp0 (if 1 < i then 1 else 0), rp0 (if 2 < i then 2 else 0), rp0 (if 3 < i then 3 else 0)]
def newS (r w : Int) : Spc := ⟨0, [], [], bits .and .i64 r 15, bits .and .i64 w 15, [⟨0, 0, 0, [], false⟩, ⟨1, 0, 0, [], false⟩, ⟨2, 0, 0, [], false⟩, ⟨3, 0, 0, [], false⟩]⟩
def spcN (r w : Int) (i : Nat) : AV := .agg 33 [.int .i64 0, .nils, .nils, .int .i64 (bits .and .i64 r 15), .int .i64 (bits .and .i64 w 15), .agg 31 (lst i)]
theorem c_New (r w : Int) : Fn prog 17 [.int .i64 r, .int .i64 w] (eS (newS r w)) := by
  refine fn_wk (r0 := spcN r w 4) 33 ?_ (by simp [spcN, ty_agg]) ?_
  · refine run_17 rfl fun h => ?_
    repeat' (first
    | simp (implicitDefEqProofs := false) only [env0, List.map_cons, List.map_nil, List.length_cons, List.length_nil, List.take_succ_cons, List.take_zero, List.toList_toArray, r_end, r_seq, r_block, r_region, r_loop, r_cond, r_cond_b, r_bo_t, r_bo_f, r_code_ret, r_code_ex, r_blk_ret, r_blk, r_blk_ex, r_cut, r_op, r_nil, r_skip, r_label, r_exit, r_ret, r_guard, r_g_undef, r_g_b, r_bg_tt, r_bg_ff, r_bg_tf, r_bg_ft, o_assign, o_move, o_pick, rp_b, bp_t, bp_f, bp_b, o_bin, rb_f, rb_eql, rb_neq, isNil_int, isNil_tmp, isNil_bool, isNil_str, isNil_slice, o_load, o_store, o_nilCheck, o_unOp, o_convert, o_extract, o_index, o_indexAddr, o_build, o_fieldAddr, o_field, o_alloc, o_box, rm, rh_new, rh_ret, rh_rd, rhd_some, o_buildSlice, o_makeSlice, o_append, o_len, o_clear, o_min, o_max, o_slice, o_makeFunc, rw_t, o_call, rf_fn, ra_t, d_nil, d_op, d_guard, dg_undef, dg_b, bd_tt, bd_ff, bd_tf, bd_ft, dx, dw_t, dv, tcOf_wr, tcOf_all, ap_wr, ap_all, clear_nil, clear_cons, clr1_some, ds_ret, ds_rd, dd_some, dm_t, do_move, do_assign, do_pick, dp_b, bq_t, bq_f, bq_b, do_load, do_store, do_nilCheck, do_unOp, do_convert, do_extract, do_index, do_indexAddr, do_build, do_fieldAddr, do_field, do_bin, do_slice, do_len, do_clear, do_alloc, do_box, do_buildSlice, do_makeSlice, do_append, do_call, df_fn, da_t, mkO, makes, holeO, apartB, disjB, memB, isE, Tc.isNone, ev, evs, constAV, lk, lkO_some, putD, put, rs_ret, rs_rd, rd_some, wrAll, gslot_0, gslot_succ, pairs, stLoad, stStore, stFieldAddr, stField, stIndexAddr, stIndex, intBin, stBin, stUn, stConv, stLen, stClear, stMin, stBuild, stBuildSlice, stMakeSlice, stNilCheck, stSlice, stAppendTo, stAppend, stBuiltin, stExtract, liveB, getE, getP, setE, setP, fillAV, lenAV, bnd, pIn, isNilB, winGet, nilEq, isSlice, isPtr, ty_int, ty_bool, ty_str, ty_agg, ty_list, ty_win, ty_ref, ty_eref, ty_nilptr, ty_fn, ty_nilfn, ty_nils, pl_int, pl_bool, pl_str, pl_agg, pl_list, pl_win, pl_ref, pl_eref, pl_nilptr, pl_fn, pl_nilfn, pl_nils, wk_int, wk_bool, wk_str, wk_list, wk_win, wk_ref, wk_eref, wk_nilptr, wk_fn, wk_nilfn, wk_nils, wkNil_slice, wk_aggE, wkAgg_struct, wkAgg_arr, List.zipWith_cons_cons, List.zipWith_nil_left, argsOK, wks, List.all_cons, List.all_nil, List.nil_append, List.append_nil, List.cons_append, AEx.fin, get_at0, get_at, set_at0, set_at, len_app, List.append_assoc, Nat.add_assoc, ne_eq, not_false_eq_true, not_true_eq_false, reduceIte, if_true, if_false, reduceCtorEq, Nat.reduceAdd, Nat.reduceSub, Nat.reduceEqDiff, Nat.reduceLT, Nat.reduceLeDiff, Nat.reduceBEq, Nat.reduceMul, Int.reduceLT, Int.reduceLE, Int.reduceEq, Int.reduceToNat, Int.reduceMul, Int.reduceNeg, Nat.add_zero, Nat.zero_add, or_true, true_or, or_false, false_or, and_true, true_and, and_false, false_and, and_self, Bool.and_true, Bool.true_and, Bool.and_false, Bool.false_and, Bool.not_true, Bool.not_false, Bool.or_true, Bool.true_or, Bool.or_false, Bool.false_or, Bool.false_eq_true, Bool.true_eq_false, decide_true, decide_false, decide_eq_true_eq, beq_self_eq_true, Nat.add_eq_left, Nat.left_eq_add, Nat.add_left_cancel_iff, List.replicate_zero, List.drop_nil, List.getElem?_cons_zero, List.getElem?_cons_succ, List.set_cons_zero, List.set_cons_succ, Option.map_some, Option.map_none, Option.isNone_none, Option.isNone_some, Option.isSome_none, Option.isSome_some, sh_2, ok_2, zo_2, za_2, ce_2, ro_2, sh_3, ok_3, zo_3, za_3, ce_3, ro_3, sh_4, ok_4, zo_4, za_4, ce_4, ro_4, sh_9, ok_9, zo_9, za_9, ce_9, ro_9, sh_23, ok_23, zo_23, za_23, ce_23, ro_23, sh_25, ok_25, zo_25, za_25, ce_25, ro_25, fl_25, po_25, sh_27, ok_27, zo_27, za_27, ce_27, ro_27, sh_28, ok_28, zo_28, za_28, ce_28, ro_28, sh_30, ok_30, zo_30, za_30, ce_30, ro_30, fl_30, po_30, sh_31, ok_31, zo_31, za_31, ce_31, ro_31, po_31, sh_33, ok_33, zo_33, za_33, ce_33, ro_33, fl_33, po_33, sh_50, ok_50, zo_50, za_50, ce_50, ro_50, fl_50, po_50, sh_74, ok_74, zo_74, za_74, ce_74, ro_74, fl_74, po_74, bodyOf, Option.getD_some, Go.Proofs.Try.f17, fin_tmp, fin_cell, fk_tmp, fk_nil, fk_ct, ck_rd, ck_some, ck_ret, cell_rd, cell_some, cell_ret, res_int, res_bool, take_self, take_app, lq_normal, lq_exit, lq_ret]
    | refine bg_yes (fun hb => ?_) (fun hb => ?_)
    | refine bg_no (fun hb => ?_) (fun hb => ?_)
    | refine bo_mk (fun hb => ?_) (fun hb => ?_)
    | refine bp_mk (fun hb => ?_) (fun hb => ?_)
    | refine bd_yes (fun hb => ?_) (fun hb => ?_)
    | refine bd_no (fun hb => ?_) (fun hb => ?_)
    | refine bq_mk (fun hb => ?_) (fun hb => ?_)
    | refine rs_no ?_ ?_
    | refine rs_yes ?_ ?_
    | refine rh_yes ?_ ?_
    | refine ds_no ?_ ?_
    | refine ds_yes ?_ ?_
    | refine dw_mk ?_ ?_
    | refine rs_ite (fun hb => ?_) (fun hb => ?_)
    | refine rh_ite (fun hb => ?_) (fun hb => ?_)
    | refine ds_ite (fun hb => ?_) (fun hb => ?_)
    | refine rq_mk rfl (fun b hb => ?_))
    refine rl_count (fun i a => [(0, .int .i64 r), (1, .int .i64 w), (4, .ref h.length [0] 33), (5, .ref (h.length + 1) [0] 33), (6, a 6), (12, .int .i64 i), (13, a 13)]) (fun i _ => h ++ [⟨33, [zeroAV prog 33], .own⟩, ⟨33, [spcN r w i], .own⟩]) (fun i => i ≤ 4) 4 (li_mk rfl ⟨[], ?_⟩ (by omega)) ?_
    · simp only [za_33]; rfl
    rintro i a g' hi
    refine ⟨hi, ?_⟩
    have h5 : i = 0 ∨ i = 1 ∨ i = 2 ∨ i = 3 ∨ i = 4 := by omega
    rcases h5 with rfl | rfl | rfl | rfl | rfl
    all_goals (repeat' (first
    | simp (implicitDefEqProofs := false) only [env0, List.map_cons, List.map_nil, List.length_cons, List.length_nil, List.take_succ_cons, List.take_zero, List.toList_toArray, r_end, r_seq, r_block, r_region, r_loop, r_cond, r_cond_b, r_bo_t, r_bo_f, r_code_ret, r_code_ex, r_blk_ret, r_blk, r_blk_ex, r_cut, r_op, r_nil, r_skip, r_label, r_exit, r_ret, r_guard, r_g_undef, r_g_b, r_bg_tt, r_bg_ff, r_bg_tf, r_bg_ft, o_assign, o_move, o_pick, rp_b, bp_t, bp_f, bp_b, o_bin, rb_f, rb_eql, rb_neq, isNil_int, isNil_tmp, isNil_bool, isNil_str, isNil_slice, o_load, o_store, o_nilCheck, o_unOp, o_convert, o_extract, o_index, o_indexAddr, o_build, o_fieldAddr, o_field, o_alloc, o_box, rm, rh_new, rh_ret, rh_rd, rhd_some, o_buildSlice, o_makeSlice, o_append, o_len, o_clear, o_min, o_max, o_slice, o_makeFunc, rw_t, o_call, rf_fn, ra_t, d_nil, d_op, d_guard, dg_undef, dg_b, bd_tt, bd_ff, bd_tf, bd_ft, dx, dw_t, dv, tcOf_wr, tcOf_all, ap_wr, ap_all, clear_nil, clear_cons, clr1_some, ds_ret, ds_rd, dd_some, dm_t, do_move, do_assign, do_pick, dp_b, bq_t, bq_f, bq_b, do_load, do_store, do_nilCheck, do_unOp, do_convert, do_extract, do_index, do_indexAddr, do_build, do_fieldAddr, do_field, do_bin, do_slice, do_len, do_clear, do_alloc, do_box, do_buildSlice, do_makeSlice, do_append, do_call, df_fn, da_t, mkO, makes, holeO, apartB, disjB, memB, isE, Tc.isNone, ev, evs, constAV, lk, lkO_some, putD, put, rs_ret, rs_rd, rd_some, wrAll, gslot_0, gslot_succ, pairs, stLoad, stStore, stFieldAddr, stField, stIndexAddr, stIndex, intBin, stBin, stUn, stConv, stLen, stClear, stMin, stBuild, stBuildSlice, stMakeSlice, stNilCheck, stSlice, stAppendTo, stAppend, stBuiltin, stExtract, liveB, getE, getP, setE, setP, fillAV, lenAV, bnd, pIn, isNilB, winGet, nilEq, isSlice, isPtr, ty_int, ty_bool, ty_str, ty_agg, ty_list, ty_win, ty_ref, ty_eref, ty_nilptr, ty_fn, ty_nilfn, ty_nils, pl_int, pl_bool, pl_str, pl_agg, pl_list, pl_win, pl_ref, pl_eref, pl_nilptr, pl_fn, pl_nilfn, pl_nils, wk_int, wk_bool, wk_str, wk_list, wk_win, wk_ref, wk_eref, wk_nilptr, wk_fn, wk_nilfn, wk_nils, wkNil_slice, wk_aggE, wkAgg_struct, wkAgg_arr, List.zipWith_cons_cons, List.zipWith_nil_left, argsOK, wks, List.all_cons, List.all_nil, List.nil_append, List.append_nil, List.cons_append, AEx.fin, get_at0, get_at, set_at0, set_at, len_app, List.append_assoc, Nat.add_assoc, ne_eq, not_false_eq_true, not_true_eq_false, reduceIte, if_true, if_false, reduceCtorEq, Nat.reduceAdd, Nat.reduceSub, Nat.reduceEqDiff, Nat.reduceLT, Nat.reduceLeDiff, Nat.reduceBEq, Nat.reduceMul, Int.reduceLT, Int.reduceLE, Int.reduceEq, Int.reduceToNat, Int.reduceMul, Int.reduceNeg, Nat.add_zero, Nat.zero_add, or_true, true_or, or_false, false_or, and_true, true_and, and_false, false_and, and_self, Bool.and_true, Bool.true_and, Bool.and_false, Bool.false_and, Bool.not_true, Bool.not_false, Bool.or_true, Bool.true_or, Bool.or_false, Bool.false_or, Bool.false_eq_true, Bool.true_eq_false, decide_true, decide_false, decide_eq_true_eq, beq_self_eq_true, Nat.add_eq_left, Nat.left_eq_add, Nat.add_left_cancel_iff, List.replicate_zero, List.drop_nil, List.getElem?_cons_zero, List.getElem?_cons_succ, List.set_cons_zero, List.set_cons_succ, Option.map_some, Option.map_none, Option.isNone_none, Option.isNone_some, Option.isSome_none, Option.isSome_some, sh_2, ok_2, zo_2, za_2, ce_2, ro_2, sh_3, ok_3, zo_3, za_3, ce_3, ro_3, sh_4, ok_4, zo_4, za_4, ce_4, ro_4, sh_9, ok_9, zo_9, za_9, ce_9, ro_9, sh_23, ok_23, zo_23, za_23, ce_23, ro_23, sh_25, ok_25, zo_25, za_25, ce_25, ro_25, fl_25, po_25, sh_27, ok_27, zo_27, za_27, ce_27, ro_27, sh_28, ok_28, zo_28, za_28, ce_28, ro_28, sh_30, ok_30, zo_30, za_30, ce_30, ro_30, fl_30, po_30, sh_31, ok_31, zo_31, za_31, ce_31, ro_31, po_31, sh_33, ok_33, zo_33, za_33, ce_33, ro_33, fl_33, po_33, sh_50, ok_50, zo_50, za_50, ce_50, ro_50, fl_50, po_50, sh_74, ok_74, zo_74, za_74, ce_74, ro_74, fl_74, po_74, bodyOf, Option.getD_some, Go.Proofs.Try.f17, fin_tmp, fin_cell, fk_tmp, fk_nil, fk_ct, ck_rd, ck_some, ck_ret, cell_rd, cell_some, cell_ret, res_int, res_bool, take_self, take_app, lq_normal, lq_exit, lq_ret, spcN, lst, rp0, (show ((0 : Nat) : Int) = 0 from rfl), (show ((1 : Nat) : Int) = 1 from rfl), (show ((2 : Nat) : Int) = 2 from rfl), (show ((3 : Nat) : Int) = 3 from rfl), (show ((4 : Nat) : Int) = 4 from rfl)]
    | refine bg_yes (fun hb => ?_) (fun hb => ?_)
    | refine bg_no (fun hb => ?_) (fun hb => ?_)
    | refine bo_mk (fun hb => ?_) (fun hb => ?_)
    | refine bp_mk (fun hb => ?_) (fun hb => ?_)
    | refine bd_yes (fun hb => ?_) (fun hb => ?_)
    | refine bd_no (fun hb => ?_) (fun hb => ?_)
    | refine bq_mk (fun hb => ?_) (fun hb => ?_)
    | refine rs_no ?_ ?_
    | refine rs_yes ?_ ?_
    | refine rh_yes ?_ ?_
    | refine ds_no ?_ ?_
    | refine ds_yes ?_ ?_
    | refine dw_mk ?_ ?_
    | refine rs_ite (fun hb => ?_) (fun hb => ?_)
    | refine rh_ite (fun hb => ?_) (fun hb => ?_)
    | refine ds_ite (fun hb => ?_) (fun hb => ?_)
    | refine rq_mk rfl (fun b hb => ?_)
    | refine li_mk ?_ ⟨[], rfl⟩ ?_))
    all_goals first
      | rfl
      | omega
      | exact res_mk (by simp [dat_agg, datL_cons, datL_nil, dat_int, dat_bool, dat]) rfl
  · simp only [spcN, lst, rp0, eS, newS, eIs, eWs, eL, eR, eFs, List.map_nil, List.map_cons, wk_aggE, wkAgg_struct, wkAgg_arr, wk_int, wk_bool, wk_nils, wkNil_slice, sh_33, fl_33, sh_31, sh_30, fl_30, sh_27, sh_28, sh_23, List.zipWith_cons_cons, List.zipWith_nil_left, if_true, Nat.reduceLT, reduceIte, if_false]

end Go.Abs
