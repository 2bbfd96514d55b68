/- Sl: a part of the proofs about the tuple space (layer 8). -/
import Derived.Test.YtelohjfiojpeeaaSp1
set_option linter.all false
set_option maxRecDepth 100000
set_option maxHeartbeats 0
namespace Go.Abs
open Go
open Go.Proofs.Try (prog)
/-! ### slices that the function owns: Clone, Delete -/

theorem c_CloneO_Item (l : List AV) (h : List Entry) (hl : l.length ≤ 4294967296) : FSpec prog 38 [.list 74 l] h fun r h' => Keeps (fun _ => False) h h' ∧ View (grow (fun _ => False) h h') h' 74 r l := by
  refine frun_38 rfl ?_
  repeat' (first
    | simp (implicitDefEqProofs := false) only [env0, List.map_cons, List.map_nil, List.length_cons, List.length_nil, List.take_succ_cons, List.take_zero, List.toList_toArray, r_end, r_seq, r_block, r_region, r_loop, r_cond, r_cond_b, r_bo_t, r_bo_f, r_code_ret, r_code_ex, r_blk_ret, r_blk, r_blk_ex, r_cut, r_op, r_nil, r_skip, r_label, r_exit, r_ret, r_guard, r_g_undef, r_g_b, r_bg_tt, r_bg_ff, r_bg_tf, r_bg_ft, o_assign, o_move, o_pick, rp_b, bp_t, bp_f, bp_b, o_bin, rb_f, rb_eql, rb_neq, isNil_int, isNil_tmp, isNil_bool, isNil_str, isNil_slice, o_load, o_store, o_nilCheck, o_unOp, o_convert, o_extract, o_index, o_indexAddr, o_build, o_fieldAddr, o_field, o_alloc, o_box, rm, rh_new, rh_ret, rh_rd, rhd_some, o_buildSlice, o_makeSlice, o_append, o_len, o_clear, o_min, o_max, o_slice, o_makeFunc, rw_t, o_call, rf_fn, ra_t, d_nil, d_op, d_guard, dg_undef, dg_b, bd_tt, bd_ff, bd_tf, bd_ft, dx, dw_t, dv, tcOf_wr, tcOf_all, ap_wr, ap_all, clear_nil, clear_cons, clr1_some, ds_ret, ds_rd, dd_some, dm_t, do_move, do_assign, do_pick, dp_b, bq_t, bq_f, bq_b, do_load, do_store, do_nilCheck, do_unOp, do_convert, do_extract, do_index, do_indexAddr, do_build, do_fieldAddr, do_field, do_bin, do_slice, do_len, do_clear, do_alloc, do_box, do_buildSlice, do_makeSlice, do_append, do_call, df_fn, da_t, mkO, makes, holeO, apartB, disjB, memB, isE, Tc.isNone, ev, evs, constAV, lk, lkO_some, putD, put, rs_ret, rs_rd, rd_some, wrAll, gslot_0, gslot_succ, pairs, stLoad, stStore, stFieldAddr, stField, stIndexAddr, stIndex, intBin, stBin, stUn, stConv, stLen, stClear, stMin, stBuild, stBuildSlice, stMakeSlice, stNilCheck, stSlice, stAppendTo, stAppend, stBuiltin, stExtract, liveB, getE, getP, setE, setP, fillAV, lenAV, bnd, pIn, isNilB, winGet, nilEq, isSlice, isPtr, ty_int, ty_bool, ty_str, ty_agg, ty_list, ty_win, ty_ref, ty_eref, ty_nilptr, ty_fn, ty_nilfn, ty_nils, pl_int, pl_bool, pl_str, pl_agg, pl_list, pl_win, pl_ref, pl_eref, pl_nilptr, pl_fn, pl_nilfn, pl_nils, wk_int, wk_bool, wk_str, wk_list, wk_win, wk_ref, wk_eref, wk_nilptr, wk_fn, wk_nilfn, wk_nils, wkNil_slice, wk_aggE, wkAgg_struct, wkAgg_arr, List.zipWith_cons_cons, List.zipWith_nil_left, argsOK, wks, List.all_cons, List.all_nil, List.nil_append, List.append_nil, List.cons_append, AEx.fin, get_at0, get_at, set_at0, set_at, len_app, List.append_assoc, Nat.add_assoc, ne_eq, not_false_eq_true, not_true_eq_false, reduceIte, if_true, if_false, reduceCtorEq, Nat.reduceAdd, Nat.reduceSub, Nat.reduceEqDiff, Nat.reduceLT, Nat.reduceLeDiff, Nat.reduceBEq, Nat.reduceMul, Int.reduceLT, Int.reduceLE, Int.reduceEq, Int.reduceToNat, Int.reduceMul, Int.reduceNeg, Nat.add_zero, Nat.zero_add, or_true, true_or, or_false, false_or, and_true, true_and, and_false, false_and, and_self, Bool.and_true, Bool.true_and, Bool.and_false, Bool.false_and, Bool.not_true, Bool.not_false, Bool.or_true, Bool.true_or, Bool.or_false, Bool.false_or, Bool.false_eq_true, Bool.true_eq_false, decide_true, decide_false, decide_eq_true_eq, beq_self_eq_true, Nat.add_eq_left, Nat.left_eq_add, Nat.add_left_cancel_iff, List.replicate_zero, List.drop_nil, List.getElem?_cons_zero, List.getElem?_cons_succ, List.set_cons_zero, List.set_cons_succ, Option.map_some, Option.map_none, Option.isNone_none, Option.isNone_some, Option.isSome_none, Option.isSome_some, sh_2, ok_2, zo_2, za_2, ce_2, ro_2, sh_3, ok_3, zo_3, za_3, ce_3, ro_3, sh_4, ok_4, zo_4, za_4, ce_4, ro_4, sh_9, ok_9, zo_9, za_9, ce_9, ro_9, sh_23, ok_23, zo_23, za_23, ce_23, ro_23, sh_25, ok_25, zo_25, za_25, ce_25, ro_25, fl_25, po_25, sh_27, ok_27, zo_27, za_27, ce_27, ro_27, sh_74, ok_74, zo_74, za_74, ce_74, ro_74, fl_74, po_74, bodyOf, Option.getD_some, Go.Proofs.Try.f38, fin_tmp, fin_cell, fk_tmp, fk_nil, fk_ct, ck_rd, ck_some, ck_ret, cell_rd, cell_some, cell_ret, res_int, res_bool, take_self, take_app, lq_normal, lq_exit, lq_ret]
    | refine bg_yes (fun hb => ?_) (fun hb => ?_)
    | refine bg_no (fun hb => ?_) (fun hb => ?_)
    | refine bo_mk (fun hb => ?_) (fun hb => ?_)
    | refine bp_mk (fun hb => ?_) (fun hb => ?_)
    | refine bd_yes (fun hb => ?_) (fun hb => ?_)
    | refine bd_no (fun hb => ?_) (fun hb => ?_)
    | refine bq_mk (fun hb => ?_) (fun hb => ?_)
    | refine rs_no ?_ ?_
    | refine rs_yes ?_ ?_
    | refine rh_yes ?_ ?_
    | refine ds_no ?_ ?_
    | refine ds_yes ?_ ?_
    | refine dw_mk ?_ ?_
    | refine rs_ite (fun hb => ?_) (fun hb => ?_)
    | refine rh_ite (fun hb => ?_) (fun hb => ?_)
    | refine ds_ite (fun hb => ?_) (fun hb => ?_)
    | refine rq_mk rfl (fun b hb => ?_))
  · rename_i hn
    have : l = [] := by
      cases b with
      | false => simp at hb
      | true =>
        by_cases hl : l = []
        · exact hl
        · simp [hl] at hn
    subst this
    rw [grow_self]
    exact ⟨.refl _ _, .nil⟩
  · exact hl
  · have : l = [] := List.eq_nil_of_length_eq_zero (by omega)
    subst this
    refine ⟨⟨by simp, fun j hj _ => by simp [ap_lo hj]⟩, View.win (l := []) (z := []) (.inr ⟨Nat.le_refl _, by simp⟩) ?_⟩
    simp [get_at0]
  · refine ⟨⟨by simp, fun j hj _ => by simp [ap_lo hj]⟩, ?_⟩
    refine View.win (l := l) (z := []) (.inr ⟨by omega, by simp⟩) ?_
    simp [get_at]

theorem c_CloneO_Waiter (l : List AV) (h : List Entry) (hl : l.length ≤ 4294967296) : FSpec prog 40 [.list 50 l] h fun r h' => Keeps (fun _ => False) h h' ∧ View (grow (fun _ => False) h h') h' 50 r l := by
  refine frun_40 rfl ?_
  repeat' (first
    | simp (implicitDefEqProofs := false) only [env0, List.map_cons, List.map_nil, List.length_cons, List.length_nil, List.take_succ_cons, List.take_zero, List.toList_toArray, r_end, r_seq, r_block, r_region, r_loop, r_cond, r_cond_b, r_bo_t, r_bo_f, r_code_ret, r_code_ex, r_blk_ret, r_blk, r_blk_ex, r_cut, r_op, r_nil, r_skip, r_label, r_exit, r_ret, r_guard, r_g_undef, r_g_b, r_bg_tt, r_bg_ff, r_bg_tf, r_bg_ft, o_assign, o_move, o_pick, rp_b, bp_t, bp_f, bp_b, o_bin, rb_f, rb_eql, rb_neq, isNil_int, isNil_tmp, isNil_bool, isNil_str, isNil_slice, o_load, o_store, o_nilCheck, o_unOp, o_convert, o_extract, o_index, o_indexAddr, o_build, o_fieldAddr, o_field, o_alloc, o_box, rm, rh_new, rh_ret, rh_rd, rhd_some, o_buildSlice, o_makeSlice, o_append, o_len, o_clear, o_min, o_max, o_slice, o_makeFunc, rw_t, o_call, rf_fn, ra_t, d_nil, d_op, d_guard, dg_undef, dg_b, bd_tt, bd_ff, bd_tf, bd_ft, dx, dw_t, dv, tcOf_wr, tcOf_all, ap_wr, ap_all, clear_nil, clear_cons, clr1_some, ds_ret, ds_rd, dd_some, dm_t, do_move, do_assign, do_pick, dp_b, bq_t, bq_f, bq_b, do_load, do_store, do_nilCheck, do_unOp, do_convert, do_extract, do_index, do_indexAddr, do_build, do_fieldAddr, do_field, do_bin, do_slice, do_len, do_clear, do_alloc, do_box, do_buildSlice, do_makeSlice, do_append, do_call, df_fn, da_t, mkO, makes, holeO, apartB, disjB, memB, isE, Tc.isNone, ev, evs, constAV, lk, lkO_some, putD, put, rs_ret, rs_rd, rd_some, wrAll, gslot_0, gslot_succ, pairs, stLoad, stStore, stFieldAddr, stField, stIndexAddr, stIndex, intBin, stBin, stUn, stConv, stLen, stClear, stMin, stBuild, stBuildSlice, stMakeSlice, stNilCheck, stSlice, stAppendTo, stAppend, stBuiltin, stExtract, liveB, getE, getP, setE, setP, fillAV, lenAV, bnd, pIn, isNilB, winGet, nilEq, isSlice, isPtr, ty_int, ty_bool, ty_str, ty_agg, ty_list, ty_win, ty_ref, ty_eref, ty_nilptr, ty_fn, ty_nilfn, ty_nils, pl_int, pl_bool, pl_str, pl_agg, pl_list, pl_win, pl_ref, pl_eref, pl_nilptr, pl_fn, pl_nilfn, pl_nils, wk_int, wk_bool, wk_str, wk_list, wk_win, wk_ref, wk_eref, wk_nilptr, wk_fn, wk_nilfn, wk_nils, wkNil_slice, wk_aggE, wkAgg_struct, wkAgg_arr, List.zipWith_cons_cons, List.zipWith_nil_left, argsOK, wks, List.all_cons, List.all_nil, List.nil_append, List.append_nil, List.cons_append, AEx.fin, get_at0, get_at, set_at0, set_at, len_app, List.append_assoc, Nat.add_assoc, ne_eq, not_false_eq_true, not_true_eq_false, reduceIte, if_true, if_false, reduceCtorEq, Nat.reduceAdd, Nat.reduceSub, Nat.reduceEqDiff, Nat.reduceLT, Nat.reduceLeDiff, Nat.reduceBEq, Nat.reduceMul, Int.reduceLT, Int.reduceLE, Int.reduceEq, Int.reduceToNat, Int.reduceMul, Int.reduceNeg, Nat.add_zero, Nat.zero_add, or_true, true_or, or_false, false_or, and_true, true_and, and_false, false_and, and_self, Bool.and_true, Bool.true_and, Bool.and_false, Bool.false_and, Bool.not_true, Bool.not_false, Bool.or_true, Bool.true_or, Bool.or_false, Bool.false_or, Bool.false_eq_true, Bool.true_eq_false, decide_true, decide_false, decide_eq_true_eq, beq_self_eq_true, Nat.add_eq_left, Nat.left_eq_add, Nat.add_left_cancel_iff, List.replicate_zero, List.drop_nil, List.getElem?_cons_zero, List.getElem?_cons_succ, List.set_cons_zero, List.set_cons_succ, Option.map_some, Option.map_none, Option.isNone_none, Option.isNone_some, Option.isSome_none, Option.isSome_some, sh_2, ok_2, zo_2, za_2, ce_2, ro_2, sh_3, ok_3, zo_3, za_3, ce_3, ro_3, sh_4, ok_4, zo_4, za_4, ce_4, ro_4, sh_9, ok_9, zo_9, za_9, ce_9, ro_9, sh_23, ok_23, zo_23, za_23, ce_23, ro_23, sh_25, ok_25, zo_25, za_25, ce_25, ro_25, fl_25, po_25, sh_28, ok_28, zo_28, za_28, ce_28, ro_28, sh_50, ok_50, zo_50, za_50, ce_50, ro_50, fl_50, po_50, bodyOf, Option.getD_some, Go.Proofs.Try.f40, fin_tmp, fin_cell, fk_tmp, fk_nil, fk_ct, ck_rd, ck_some, ck_ret, cell_rd, cell_some, cell_ret, res_int, res_bool, take_self, take_app, lq_normal, lq_exit, lq_ret]
    | refine bg_yes (fun hb => ?_) (fun hb => ?_)
    | refine bg_no (fun hb => ?_) (fun hb => ?_)
    | refine bo_mk (fun hb => ?_) (fun hb => ?_)
    | refine bp_mk (fun hb => ?_) (fun hb => ?_)
    | refine bd_yes (fun hb => ?_) (fun hb => ?_)
    | refine bd_no (fun hb => ?_) (fun hb => ?_)
    | refine bq_mk (fun hb => ?_) (fun hb => ?_)
    | refine rs_no ?_ ?_
    | refine rs_yes ?_ ?_
    | refine rh_yes ?_ ?_
    | refine ds_no ?_ ?_
    | refine ds_yes ?_ ?_
    | refine dw_mk ?_ ?_
    | refine rs_ite (fun hb => ?_) (fun hb => ?_)
    | refine rh_ite (fun hb => ?_) (fun hb => ?_)
    | refine ds_ite (fun hb => ?_) (fun hb => ?_)
    | refine rq_mk rfl (fun b hb => ?_))
  · rename_i hn
    have : l = [] := by
      cases b with
      | false => simp at hb
      | true =>
        by_cases hl : l = []
        · exact hl
        · simp [hl] at hn
    subst this
    rw [grow_self]
    exact ⟨.refl _ _, .nil⟩
  · exact hl
  · have : l = [] := List.eq_nil_of_length_eq_zero (by omega)
    subst this
    refine ⟨⟨by simp, fun j hj _ => by simp [ap_lo hj]⟩, View.win (l := []) (z := []) (.inr ⟨Nat.le_refl _, by simp⟩) ?_⟩
    simp [get_at0]
  · refine ⟨⟨by simp, fun j hj _ => by simp [ap_lo hj]⟩, ?_⟩
    refine View.win (l := l) (z := []) (.inr ⟨by omega, by simp⟩) ?_
    simp [get_at]

theorem c_Delete_Item {l z : List AV} {k lo i : Nat} {h : List Entry} (hk : h[k]? = some ⟨74, l ++ z, .own⟩) (hi : i < l.length) (hl : l.length ≤ 4294967296) :
    FSpec prog 91 [.win k [] 74 0 l.length lo, .int .i64 i, .int .i64 (i + 1 : Nat)] h fun r h' => r = .win k [] 74 0 (l.length - 1) (max l.length lo) ∧ h' = h.set k ⟨74, l.eraseIdx i ++ (zeroAV prog 74 :: z), .own⟩ ++ [⟨0, [], .hole⟩] := by
  have hkl := lt_some hk
  have hne : ((i : Int) == ((i + 1 : Nat) : Int)) = false := by simp; omega
  have hwc : (i + (1 + (l.length - (i + 1))) ≤ (l ++ z).length) = True := by simp; omega
  have hwg : (List.drop (i + 1) (l ++ z)).take (l.length - (i + 1)) = l.drop (i + 1) := by
    rw [List.drop_append_of_le_length (by omega), List.take_append_of_le_length (by simp), List.take_of_length_le (by simp)]
  have hmx : (l.length - 1 ≤ max l.length lo) = True := by simp; omega
  have hsub : l.length - (l.length - 1) = 1 := by omega
  have hl1 : l.length - 1 + 1 = l.length := by omega
  have hld : (l.drop (i + 1)).length = l.length - (i + 1) := by simp
  have hsum : i + (l.length - (i + 1)) = l.length - 1 := by omega
  have hes : (l ++ z).take i ++ (l.drop (i + 1) ++ (l ++ z).drop (l.length - 1)) = l.eraseIdx i ++ (l.drop (l.length - 1) ++ z) := by
    rw [List.take_append_of_le_length (by omega), List.drop_append_of_le_length (by omega), List.eraseIdx_eq_take_drop_succ, List.append_assoc]
  have hel : (l.eraseIdx i).length = l.length - 1 := List.length_eraseIdx_of_lt hi
  have hcl : ∀ v : AV, (l.eraseIdx i ++ (l.drop (l.length - 1) ++ z)).take (l.length - 1) ++ (v :: (l.eraseIdx i ++ (l.drop (l.length - 1) ++ z)).drop l.length) = l.eraseIdx i ++ (v :: z) := by
    intro v
    rw [List.take_append_of_le_length (by omega), List.take_of_length_le (by omega), List.drop_append, hel, List.drop_eq_nil_of_le (by omega), List.nil_append, List.drop_append, List.drop_drop]
    simp only [List.length_drop, hsub]
    rw [List.drop_eq_nil_of_le (by omega)]
    simp
  refine frun_91 rfl ?_
  repeat' (first
    | simp (implicitDefEqProofs := false) only [env0, List.map_cons, List.map_nil, List.length_cons, List.length_nil, List.take_succ_cons, List.take_zero, List.toList_toArray, r_end, r_seq, r_block, r_region, r_loop, r_cond, r_cond_b, r_bo_t, r_bo_f, r_code_ret, r_code_ex, r_blk_ret, r_blk, r_blk_ex, r_cut, r_op, r_nil, r_skip, r_label, r_exit, r_ret, r_guard, r_g_undef, r_g_b, r_bg_tt, r_bg_ff, r_bg_tf, r_bg_ft, o_assign, o_move, o_pick, rp_b, bp_t, bp_f, bp_b, o_bin, rb_f, rb_eql, rb_neq, isNil_int, isNil_tmp, isNil_bool, isNil_str, isNil_slice, o_load, o_store, o_nilCheck, o_unOp, o_convert, o_extract, o_index, o_indexAddr, o_build, o_fieldAddr, o_field, o_alloc, o_box, rm, rh_new, rh_ret, rh_rd, rhd_some, o_buildSlice, o_makeSlice, o_append, o_len, o_clear, o_min, o_max, o_slice, o_makeFunc, rw_t, o_call, rf_fn, ra_t, d_nil, d_op, d_guard, dg_undef, dg_b, bd_tt, bd_ff, bd_tf, bd_ft, dx, dw_t, dv, tcOf_wr, tcOf_all, ap_wr, ap_all, clear_nil, clear_cons, clr1_some, ds_ret, ds_rd, dd_some, dm_t, do_move, do_assign, do_pick, dp_b, bq_t, bq_f, bq_b, do_load, do_store, do_nilCheck, do_unOp, do_convert, do_extract, do_index, do_indexAddr, do_build, do_fieldAddr, do_field, do_bin, do_slice, do_len, do_clear, do_alloc, do_box, do_buildSlice, do_makeSlice, do_append, do_call, df_fn, da_t, mkO, makes, holeO, apartB, disjB, memB, isE, Tc.isNone, ev, evs, constAV, lk, lkO_some, putD, put, rs_ret, rs_rd, rd_some, wrAll, gslot_0, gslot_succ, pairs, stLoad, stStore, stFieldAddr, stField, stIndexAddr, stIndex, intBin, stBin, stUn, stConv, stLen, stClear, stMin, stBuild, stBuildSlice, stMakeSlice, stNilCheck, stSlice, stAppendTo, stAppend, stBuiltin, stExtract, liveB, getE, getP, setE, setP, fillAV, lenAV, bnd, pIn, isNilB, winGet, nilEq, isSlice, isPtr, ty_int, ty_bool, ty_str, ty_agg, ty_list, ty_win, ty_ref, ty_eref, ty_nilptr, ty_fn, ty_nilfn, ty_nils, pl_int, pl_bool, pl_str, pl_agg, pl_list, pl_win, pl_ref, pl_eref, pl_nilptr, pl_fn, pl_nilfn, pl_nils, wk_int, wk_bool, wk_str, wk_list, wk_win, wk_ref, wk_eref, wk_nilptr, wk_fn, wk_nilfn, wk_nils, wkNil_slice, wk_aggE, wkAgg_struct, wkAgg_arr, List.zipWith_cons_cons, List.zipWith_nil_left, argsOK, wks, List.all_cons, List.all_nil, List.nil_append, List.append_nil, List.cons_append, AEx.fin, get_at0, get_at, set_at0, set_at, len_app, List.append_assoc, Nat.add_assoc, ne_eq, not_false_eq_true, not_true_eq_false, reduceIte, if_true, if_false, reduceCtorEq, Nat.reduceAdd, Nat.reduceSub, Nat.reduceEqDiff, Nat.reduceLT, Nat.reduceLeDiff, Nat.reduceBEq, Nat.reduceMul, Int.reduceLT, Int.reduceLE, Int.reduceEq, Int.reduceToNat, Int.reduceMul, Int.reduceNeg, Nat.add_zero, Nat.zero_add, or_true, true_or, or_false, false_or, and_true, true_and, and_false, false_and, and_self, Bool.and_true, Bool.true_and, Bool.and_false, Bool.false_and, Bool.not_true, Bool.not_false, Bool.or_true, Bool.true_or, Bool.or_false, Bool.false_or, Bool.false_eq_true, Bool.true_eq_false, decide_true, decide_false, decide_eq_true_eq, beq_self_eq_true, Nat.add_eq_left, Nat.left_eq_add, Nat.add_left_cancel_iff, List.replicate_zero, List.drop_nil, List.getElem?_cons_zero, List.getElem?_cons_succ, List.set_cons_zero, List.set_cons_succ, Option.map_some, Option.map_none, Option.isNone_none, Option.isNone_some, Option.isSome_none, Option.isSome_some, sh_2, ok_2, zo_2, za_2, ce_2, ro_2, sh_3, ok_3, zo_3, za_3, ce_3, ro_3, sh_4, ok_4, zo_4, za_4, ce_4, ro_4, sh_9, ok_9, zo_9, za_9, ce_9, ro_9, sh_23, ok_23, zo_23, za_23, ce_23, ro_23, sh_25, ok_25, zo_25, za_25, ce_25, ro_25, fl_25, po_25, sh_27, ok_27, zo_27, za_27, ce_27, ro_27, sh_74, ok_74, zo_74, za_74, ce_74, ro_74, fl_74, po_74, bodyOf, Option.getD_some, Go.Proofs.Try.f91, fin_tmp, fin_cell, fk_tmp, fk_nil, fk_ct, ck_rd, ck_some, ck_ret, cell_rd, cell_some, cell_ret, res_int, res_bool, take_self, take_app, lq_normal, lq_exit, lq_ret, hne, hk, hkl, Int.toNat_natCast, ap_lo, st_lo, st_ne, st_eq, len_st, st_st, Nat.sub_zero, hwc, hwg, hmx, hsub, hl1, hcl, List.replicate_succ, hld, hsum, hes, ne_hi hkl, ne_hi' hkl, ne_h hkl, ne_h' hkl]
    | refine bg_yes (fun hb => ?_) (fun hb => ?_)
    | refine bg_no (fun hb => ?_) (fun hb => ?_)
    | refine bo_mk (fun hb => ?_) (fun hb => ?_)
    | refine bp_mk (fun hb => ?_) (fun hb => ?_)
    | refine bd_yes (fun hb => ?_) (fun hb => ?_)
    | refine bd_no (fun hb => ?_) (fun hb => ?_)
    | refine bq_mk (fun hb => ?_) (fun hb => ?_)
    | refine rs_no ?_ ?_
    | refine rs_yes ?_ ?_
    | refine rh_yes ?_ ?_
    | refine ds_no ?_ ?_
    | refine ds_yes ?_ ?_
    | refine dw_mk ?_ ?_
    | refine rs_ite (fun hb => ?_) (fun hb => ?_)
    | refine rh_ite (fun hb => ?_) (fun hb => ?_)
    | refine ds_ite (fun hb => ?_) (fun hb => ?_)
    | refine rq_mk rfl (fun b hb => ?_)
    | refine r_draw (U := [[], [], [], [], [], [2], [], []]) (H := [⟨0, [], .hole⟩]) hmix (by kernel_rfl) (by decide +kernel) (by kernel_rfl) ?_)
  all_goals first
    | omega
    | (simp; omega)
    | rfl

theorem c_Delete_Waiter {l z : List AV} {k lo i : Nat} {h : List Entry} (hk : h[k]? = some ⟨50, l ++ z, .own⟩) (hi : i < l.length) (hl : l.length ≤ 4294967296) :
    FSpec prog 90 [.win k [] 50 0 l.length lo, .int .i64 i, .int .i64 (i + 1 : Nat)] h fun r h' => r = .win k [] 50 0 (l.length - 1) (max l.length lo) ∧ h' = h.set k ⟨50, l.eraseIdx i ++ (zeroAV prog 50 :: z), .own⟩ ++ [⟨0, [], .hole⟩] := by
  have hkl := lt_some hk
  have hne : ((i : Int) == ((i + 1 : Nat) : Int)) = false := by simp; omega
  have hwc : (i + (1 + (l.length - (i + 1))) ≤ (l ++ z).length) = True := by simp; omega
  have hwg : (List.drop (i + 1) (l ++ z)).take (l.length - (i + 1)) = l.drop (i + 1) := by
    rw [List.drop_append_of_le_length (by omega), List.take_append_of_le_length (by simp), List.take_of_length_le (by simp)]
  have hmx : (l.length - 1 ≤ max l.length lo) = True := by simp; omega
  have hsub : l.length - (l.length - 1) = 1 := by omega
  have hl1 : l.length - 1 + 1 = l.length := by omega
  have hld : (l.drop (i + 1)).length = l.length - (i + 1) := by simp
  have hsum : i + (l.length - (i + 1)) = l.length - 1 := by omega
  have hes : (l ++ z).take i ++ (l.drop (i + 1) ++ (l ++ z).drop (l.length - 1)) = l.eraseIdx i ++ (l.drop (l.length - 1) ++ z) := by
    rw [List.take_append_of_le_length (by omega), List.drop_append_of_le_length (by omega), List.eraseIdx_eq_take_drop_succ, List.append_assoc]
  have hel : (l.eraseIdx i).length = l.length - 1 := List.length_eraseIdx_of_lt hi
  have hcl : ∀ v : AV, (l.eraseIdx i ++ (l.drop (l.length - 1) ++ z)).take (l.length - 1) ++ (v :: (l.eraseIdx i ++ (l.drop (l.length - 1) ++ z)).drop l.length) = l.eraseIdx i ++ (v :: z) := by
    intro v
    rw [List.take_append_of_le_length (by omega), List.take_of_length_le (by omega), List.drop_append, hel, List.drop_eq_nil_of_le (by omega), List.nil_append, List.drop_append, List.drop_drop]
    simp only [List.length_drop, hsub]
    rw [List.drop_eq_nil_of_le (by omega)]
    simp
  refine frun_90 rfl ?_
  repeat' (first
    | simp (implicitDefEqProofs := false) only [env0, List.map_cons, List.map_nil, List.length_cons, List.length_nil, List.take_succ_cons, List.take_zero, List.toList_toArray, r_end, r_seq, r_block, r_region, r_loop, r_cond, r_cond_b, r_bo_t, r_bo_f, r_code_ret, r_code_ex, r_blk_ret, r_blk, r_blk_ex, r_cut, r_op, r_nil, r_skip, r_label, r_exit, r_ret, r_guard, r_g_undef, r_g_b, r_bg_tt, r_bg_ff, r_bg_tf, r_bg_ft, o_assign, o_move, o_pick, rp_b, bp_t, bp_f, bp_b, o_bin, rb_f, rb_eql, rb_neq, isNil_int, isNil_tmp, isNil_bool, isNil_str, isNil_slice, o_load, o_store, o_nilCheck, o_unOp, o_convert, o_extract, o_index, o_indexAddr, o_build, o_fieldAddr, o_field, o_alloc, o_box, rm, rh_new, rh_ret, rh_rd, rhd_some, o_buildSlice, o_makeSlice, o_append, o_len, o_clear, o_min, o_max, o_slice, o_makeFunc, rw_t, o_call, rf_fn, ra_t, d_nil, d_op, d_guard, dg_undef, dg_b, bd_tt, bd_ff, bd_tf, bd_ft, dx, dw_t, dv, tcOf_wr, tcOf_all, ap_wr, ap_all, clear_nil, clear_cons, clr1_some, ds_ret, ds_rd, dd_some, dm_t, do_move, do_assign, do_pick, dp_b, bq_t, bq_f, bq_b, do_load, do_store, do_nilCheck, do_unOp, do_convert, do_extract, do_index, do_indexAddr, do_build, do_fieldAddr, do_field, do_bin, do_slice, do_len, do_clear, do_alloc, do_box, do_buildSlice, do_makeSlice, do_append, do_call, df_fn, da_t, mkO, makes, holeO, apartB, disjB, memB, isE, Tc.isNone, ev, evs, constAV, lk, lkO_some, putD, put, rs_ret, rs_rd, rd_some, wrAll, gslot_0, gslot_succ, pairs, stLoad, stStore, stFieldAddr, stField, stIndexAddr, stIndex, intBin, stBin, stUn, stConv, stLen, stClear, stMin, stBuild, stBuildSlice, stMakeSlice, stNilCheck, stSlice, stAppendTo, stAppend, stBuiltin, stExtract, liveB, getE, getP, setE, setP, fillAV, lenAV, bnd, pIn, isNilB, winGet, nilEq, isSlice, isPtr, ty_int, ty_bool, ty_str, ty_agg, ty_list, ty_win, ty_ref, ty_eref, ty_nilptr, ty_fn, ty_nilfn, ty_nils, pl_int, pl_bool, pl_str, pl_agg, pl_list, pl_win, pl_ref, pl_eref, pl_nilptr, pl_fn, pl_nilfn, pl_nils, wk_int, wk_bool, wk_str, wk_list, wk_win, wk_ref, wk_eref, wk_nilptr, wk_fn, wk_nilfn, wk_nils, wkNil_slice, wk_aggE, wkAgg_struct, wkAgg_arr, List.zipWith_cons_cons, List.zipWith_nil_left, argsOK, wks, List.all_cons, List.all_nil, List.nil_append, List.append_nil, List.cons_append, AEx.fin, get_at0, get_at, set_at0, set_at, len_app, List.append_assoc, Nat.add_assoc, ne_eq, not_false_eq_true, not_true_eq_false, reduceIte, if_true, if_false, reduceCtorEq, Nat.reduceAdd, Nat.reduceSub, Nat.reduceEqDiff, Nat.reduceLT, Nat.reduceLeDiff, Nat.reduceBEq, Nat.reduceMul, Int.reduceLT, Int.reduceLE, Int.reduceEq, Int.reduceToNat, Int.reduceMul, Int.reduceNeg, Nat.add_zero, Nat.zero_add, or_true, true_or, or_false, false_or, and_true, true_and, and_false, false_and, and_self, Bool.and_true, Bool.true_and, Bool.and_false, Bool.false_and, Bool.not_true, Bool.not_false, Bool.or_true, Bool.true_or, Bool.or_false, Bool.false_or, Bool.false_eq_true, Bool.true_eq_false, decide_true, decide_false, decide_eq_true_eq, beq_self_eq_true, Nat.add_eq_left, Nat.left_eq_add, Nat.add_left_cancel_iff, List.replicate_zero, List.drop_nil, List.getElem?_cons_zero, List.getElem?_cons_succ, List.set_cons_zero, List.set_cons_succ, Option.map_some, Option.map_none, Option.isNone_none, Option.isNone_some, Option.isSome_none, Option.isSome_some, sh_2, ok_2, zo_2, za_2, ce_2, ro_2, sh_3, ok_3, zo_3, za_3, ce_3, ro_3, sh_4, ok_4, zo_4, za_4, ce_4, ro_4, sh_9, ok_9, zo_9, za_9, ce_9, ro_9, sh_23, ok_23, zo_23, za_23, ce_23, ro_23, sh_25, ok_25, zo_25, za_25, ce_25, ro_25, fl_25, po_25, sh_28, ok_28, zo_28, za_28, ce_28, ro_28, sh_50, ok_50, zo_50, za_50, ce_50, ro_50, fl_50, po_50, bodyOf, Option.getD_some, Go.Proofs.Try.f90, fin_tmp, fin_cell, fk_tmp, fk_nil, fk_ct, ck_rd, ck_some, ck_ret, cell_rd, cell_some, cell_ret, res_int, res_bool, take_self, take_app, lq_normal, lq_exit, lq_ret, hne, hk, hkl, Int.toNat_natCast, ap_lo, st_lo, st_ne, st_eq, len_st, st_st, Nat.sub_zero, hwc, hwg, hmx, hsub, hl1, hcl, List.replicate_succ, hld, hsum, hes, ne_hi hkl, ne_hi' hkl, ne_h hkl, ne_h' hkl]
    | refine bg_yes (fun hb => ?_) (fun hb => ?_)
    | refine bg_no (fun hb => ?_) (fun hb => ?_)
    | refine bo_mk (fun hb => ?_) (fun hb => ?_)
    | refine bp_mk (fun hb => ?_) (fun hb => ?_)
    | refine bd_yes (fun hb => ?_) (fun hb => ?_)
    | refine bd_no (fun hb => ?_) (fun hb => ?_)
    | refine bq_mk (fun hb => ?_) (fun hb => ?_)
    | refine rs_no ?_ ?_
    | refine rs_yes ?_ ?_
    | refine rh_yes ?_ ?_
    | refine ds_no ?_ ?_
    | refine ds_yes ?_ ?_
    | refine dw_mk ?_ ?_
    | refine rs_ite (fun hb => ?_) (fun hb => ?_)
    | refine rh_ite (fun hb => ?_) (fun hb => ?_)
    | refine ds_ite (fun hb => ?_) (fun hb => ?_)
    | refine rq_mk rfl (fun b hb => ?_)
    | refine r_draw (U := [[], [], [], [], [], [2], [], []]) (H := [⟨0, [], .hole⟩]) hmix (by kernel_rfl) (by decide +kernel) (by kernel_rfl) ?_)
  all_goals first
    | omega
    | (simp; omega)
    | rfl

end Go.Abs
