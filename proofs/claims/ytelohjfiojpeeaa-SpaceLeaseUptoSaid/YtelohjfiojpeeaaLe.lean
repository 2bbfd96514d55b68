/- Le: part of the proof that SpaceLease holds. -/
import Derived.Test.YtelohjfiojpeeaaTo
set_option linter.all false
set_option maxRecDepth 100000
set_option maxHeartbeats 0
namespace Go.Abs
open Go
open Go.Proofs.Try (prog)
/-! ### what may be, of the document, may be, of the program -/
theorem ok6_plain {x : Fld} (h : ok6 2 x = true) : x.plain = true := by
  simp only [ok6, Bool.and_eq_true, decide_eq_true_eq, Bool.or_eq_true, beq_iff_eq] at h
  obtain ⟨⟨⟨⟨h1, h2⟩, h3⟩, h4⟩, h5⟩ := h
  unfold Fld.plain
  rcases (by omega : x.K = 1 ∨ x.K = 2) with hk | hk
  · rw [if_pos hk]
    rcases h4 with h4 | h4
    · omega
    · exact h4
  · rw [if_neg (by omega), if_pos hk]
    rcases h3 with h3 | h3
    · omega
    · simp [h3, h5]
theorem plain_asked {x : Fld} (h : x.plain = true) : x.asked = true := by
  unfold Fld.asked
  rw [if_neg, h]
  unfold Fld.plain at h
  split at h
  · omega
  · split at h
    · omega
    · cases h
theorem may6_T {l : List Fld} (h : may6 l 2 = true) : mayT l = true := by
  simp only [may6, Bool.and_eq_true, List.all_eq_true] at h
  simp only [mayT, Bool.and_eq_true, List.all_eq_true]
  exact ⟨h.1, fun x hx => ok6_plain (h.2 x hx)⟩
theorem mayT_P {l : List Fld} (h : mayT l = true) : mayP l = true := by
  simp only [mayT, Bool.and_eq_true, List.all_eq_true] at h
  simp only [mayP, Bool.and_eq_true, List.all_eq_true]
  exact ⟨h.1, fun x hx => plain_asked (h.2 x hx)⟩
theorem ba_refl (b : ByteArray) : (b == b) = true := by
  cases b with
  | mk d =>
    show (d == d) = true
    exact beq_self_eq_true d
theorem same_refl (x : Fld) : x.same x = true := by simp [Fld.same, ba_refl]
theorem plain_fits {x : Fld} (h : x.plain = true) : x.fits x = true := by
  unfold Fld.fits
  unfold Fld.plain at h
  split at h
  · rw [if_neg (by omega), if_neg (by omega), if_neg (by omega)]; exact same_refl x
  · split at h
    · rw [if_neg (by omega), if_neg (by omega), if_neg (by omega)]; exact same_refl x
    · cases h
theorem all2_refl {α : Type} {p : α → α → Bool} : ∀ {l : List α}, (∀ x ∈ l, p x x = true) → all2 p l l = true
  | [], _ => rfl
  | x :: l, h => by simp only [all2, h x (by simp), all2_refl (l := l) fun y hy => h y (by simp [hy]), Bool.and_self]
theorem matchT_self {l : List Fld} (h : mayT l = true) : matchT l l = true := by
  have h2 := h
  simp only [mayT, Bool.and_eq_true, List.all_eq_true] at h2
  simp only [matchT, mayT_P h, h, all2_refl fun x hx => plain_fits (h2.2 x hx), Bool.and_self]

/-! ### one tuple with a lease -/
def l4 (a b : Rpl) : List Rpl := [⟨0, 0, 0, [], false⟩, a, b, ⟨3, 0, 0, [], false⟩]
def r0 (c : Int) : Rpl := ⟨c, 0, 0, [], false⟩
def leaseI (t : List Fld) (k x : Int) : Itm := ⟨1, if 0 < k then x + k else 0, t⟩
def leaseA (t : List Fld) (k x : Int) : Spc := ⟨x, [leaseI t k x], [], 15, 15, l4 ⟨1, 1, 1, [], false⟩ (r0 2)⟩
def leaseB (t : List Fld) (k x y : Int) (there : Bool) : Spc := ⟨y, if there then [leaseI t k x] else [], [], 15, 15, l4 ⟨1, 1, 1, [], false⟩ (if there then ⟨2, 1, 2, t, false⟩ else ⟨2, 1, 3, [], false⟩)⟩
theorem lease1 {t : List Fld} {k x : Int} (ht : mayT t = true) (hk : 0 ≤ k ∧ k ≤ 50) (hx : 0 ≤ x ∧ x ≤ 2000) : doS (newS 15 15) x ⟨1, 1, 1, [], t, k⟩ = (leaseA t k x, [⟨1, 1, 1, [], false⟩]) := by
  have hp : putsK 1 = true := by kernel_rfl
  have hr : readsK 1 = false := by kernel_rfl
  have hok : doOK (newS 15 15) x ⟨1, 1, 1, [], t, k⟩ = true := by
    have hq : mayQ ⟨1, 1, 1, [], t, k⟩ = true := by
      simp only [mayQ, hp, hr, if_true, ht, Bool.true_and, if_false, Bool.false_eq_true]
      simp; omega
    simp only [doOK, told4D, hq, Bool.true_and]
    show (decide ((0 : Int) ≤ x) && decide (x ≤ 1099511627776)) = true
    simp; omega
  have hd : ¬ denyS (aged (newS 15 15) x) ⟨1, 1, 1, [], t, k⟩ = true := by
    have : denyS (aged (newS 15 15) x) ⟨1, 1, 1, [], t, k⟩ = false := by
      show ((readsK 1 && bitOf (newS 15 15).Read 1) || (writesK 1 && bitOf (newS 15 15).Write 1)) = false
      kernel_rfl
    rw [this]; simp
  have hf : ¬ fullS (aged (newS 15 15) x) ⟨1, 1, 1, [], t, k⟩ (-1) = true := by
    have : fullS (aged (newS 15 15) x) ⟨1, 1, 1, [], t, k⟩ (-1) = false := rfl
    rw [this]; simp
  rw [doS, if_pos hok, if_neg (by show ¬ (1 : Int) < 0; omega), if_neg (by show ¬ (1 : Int) = 0; omega), doW, if_neg hd, if_pos rfl, bringS, if_neg hf]
  rfl
theorem leaseA_may {t : List Fld} {k x : Int} (ht : mayT t = true) (hk : 0 ≤ k ∧ k ≤ 50) (hx : 0 ≤ x ∧ x ≤ 2000) : mayS (leaseA t k x) = true := by
  have h1 : mayI (leaseI t k x) x = true := by
    simp only [mayI, leaseI, ht, Bool.and_true]
    have : clientOK 1 = true := by kernel_rfl
    rw [this, Bool.true_and]
    by_cases hk0 : 0 < k
    · simp only [if_pos hk0, Bool.or_eq_true, Bool.and_eq_true, decide_eq_true_eq]
      exact .inr ⟨by omega, by omega⟩
    · simp only [if_neg hk0]; rfl
  have h2 : mayH (leaseA t k x) = true := by
    have this : (15 : Int).fdiv 16 = 0 := by decide
    show (decide (0 ≤ x) && decide (x ≤ 1099511627776) && decide ((15 : Int).fdiv 16 = 0) && decide ((15 : Int).fdiv 16 = 0) && true && true) = true
    simp only [Bool.and_eq_true, decide_eq_true_eq]
    exact ⟨⟨⟨⟨⟨hx.1, by omega⟩, this⟩, this⟩, trivial⟩, trivial⟩
  have h3 : all2 mayL (l4 ⟨1, 1, 1, [], false⟩ (r0 2)) [0, 1, 2, 3] = true := by kernel_rfl
  simp only [mayS, h2, Bool.true_and]
  show (([leaseI t k x].all fun y => mayI y x) && [0, 1, 2, 3].all (fun c => decide (cnt [leaseI t k x] c ≤ 24)) && ([] : List Wtr).all mayW && all2 mayL (l4 ⟨1, 1, 1, [], false⟩ (r0 2)) [0, 1, 2, 3]) = true
  rw [h3]
  simp only [List.all_cons, List.all_nil, h1, Bool.and_true, Bool.true_and]
  have hc : ∀ c, cnt [leaseI t k x] c ≤ 24 := fun c => by have := cnt_len [leaseI t k x] c; simp at this; omega
  simp [hc]
theorem lease2 {t : List Fld} {k x d : Int} (ht : mayT t = true) (hk : 0 ≤ k ∧ k ≤ 50) (hx : 0 ≤ x ∧ x ≤ 2000) (hd0 : 0 ≤ d ∧ d ≤ 100) :
    doS (leaseA t k x) (x + d) ⟨2, 1, 2, t, [], 0⟩ = (leaseB t k x (x + d) (k == 0 || decide (d < k)), [if (k == 0 || decide (d < k)) = true then ⟨2, 1, 2, t, false⟩ else ⟨2, 1, 3, [], false⟩]) := by
  have hp : putsK 2 = false := by kernel_rfl
  have hr : readsK 2 = true := by kernel_rfl
  have hok : doOK (leaseA t k x) (x + d) ⟨2, 1, 2, t, [], 0⟩ = true := by
    have hq : mayQ ⟨2, 1, 2, t, [], 0⟩ = true := by
      simp only [mayQ, hp, hr, if_true, mayT_P ht, Bool.true_and, if_false, Bool.false_eq_true, Bool.and_true]
      simp
    simp only [doOK, leaseA_may ht hk hx, hq, Bool.true_and]
    show (decide (x ≤ x + d) && decide (x + d ≤ 1099511627776)) = true
    simp; omega
  have hdn : ¬ denyS (aged (leaseA t k x) (x + d)) ⟨2, 1, 2, t, [], 0⟩ = true := by
    have : denyS (aged (leaseA t k x) (x + d)) ⟨2, 1, 2, t, [], 0⟩ = false := by
      show ((readsK 2 && bitOf 15 2) || (writesK 2 && bitOf 15 2)) = false
      kernel_rfl
    rw [this]; simp
  have hex : expd (x + d) (leaseI t k x) = !(k == 0 || decide (d < k)) := by
    simp only [expd, leaseI]
    split
    · rw [Bool.eq_iff_iff]; simp; omega
    · have : k = 0 := by omega
      subst this; simp
  rw [doS, if_pos hok, if_neg (by show ¬ (1 : Int) < 0; omega), if_neg (by show ¬ (1 : Int) = 0; omega), doW, if_neg hdn, if_neg (by show ¬ (2 : Int) = 1; omega), if_pos rfl]
  cases hth : (k == 0 || decide (d < k)) with
  | true =>
    have hli : live (x + d) [leaseI t k x] = [leaseI t k x] := by simp [live, hex, hth]
    have hag : aged (leaseA t k x) (x + d) = ⟨x + d, [leaseI t k x], [], 15, 15, l4 ⟨1, 1, 1, [], false⟩ (r0 2)⟩ := by
      simp only [aged, leaseA, hli]
    rw [hag]
    have hfi : findS ⟨x + d, [leaseI t k x], [], 15, 15, l4 ⟨1, 1, 1, [], false⟩ (r0 2)⟩ t = 0 := by
      show fidx (fun y : Itm => matchT t y.T) [leaseI t k x] = 0
      simp [fidx, List.findIdx?_cons, leaseI, matchT_self ht]
    rw [findW, if_pos (by rw [hfi]; omega), hfi]
    rfl
  | false =>
    have hli : live (x + d) [leaseI t k x] = [] := by simp [live, hex, hth]
    have hag : aged (leaseA t k x) (x + d) = ⟨x + d, [], [], 15, 15, l4 ⟨1, 1, 1, [], false⟩ (r0 2)⟩ := by
      simp only [aged, leaseA, hli]
    rw [hag]
    rw [findW, if_neg (by show ¬ (0 : Int) ≤ -1; omega), if_pos rfl]
    rfl

/-! ### SpaceLease -/
theorem u64_range (n : Int) : 0 ≤ IntKind.wrap .u64 n ∧ IntKind.wrap .u64 n ≤ 18446744073709551615 := by
  unfold IntKind.wrap
  simp [IntKind.bits, IntKind.signed]
  omega
theorem mod_small (n m : Int) (hm : 1 ≤ m ∧ m ≤ 1000000) : ∃ k, IntKind.wrap .i64 ((IntKind.wrap .u64 n).tmod m) = k ∧ 0 ≤ k ∧ k < m := by
  have h := u64_range n
  rw [IntWalk.rem_in _ _ h.1]
  have h1 := Int.emod_nonneg (IntKind.wrap .u64 n) (show m ≠ 0 by omega)
  have h2 := Int.emod_lt_of_pos (IntKind.wrap .u64 n) (show 0 < m by omega)
  exact ⟨_, IntWalk.i64_in _ (by omega), h1, h2⟩
theorem leaseA_small {t : List Fld} {k x : Int} (ht : t.length ≤ 4294967296) : (leaseA t k x).Small :=
  ⟨⟨by simp [leaseA], by simp [leaseA, leaseI, ht]⟩, ⟨by simp [leaseA], by simp [leaseA]⟩, ⟨by simp [leaseA, l4], by simp [leaseA, l4, r0]⟩, rfl⟩
theorem bn1 : (true != true) = false := rfl
theorem bn2 : (true != false) = true := rfl
theorem bn3 : (false != true) = true := rfl
theorem bn4 : (false != false) = false := rfl
theorem bt1 : (true == true) = true := rfl
theorem bt2 : (true == false) = false := rfl
theorem bt3 : (false == true) = false := rfl
theorem bt4 : (false == false) = true := rfl
theorem c_SpaceLease (t : List Fld) (lease a later : Int) (hl : t.length ≤ 4294967296) : Fn prog 5 [eFs t, .int .i64 lease, .int .i64 a, .int .i64 later] (.bool true) := by
  refine run_5 rfl fun h => ?_
  obtain ⟨k, hk, hk0, hk1⟩ := mod_small lease 51 (by omega)
  obtain ⟨x, hx, hx0, hx1⟩ := mod_small a 1000 (by omega)
  obtain ⟨d, hd, hd0, hd1⟩ := mod_small later 80 (by omega)
  have hxd : IntKind.wrap .i64 (x + d) = x + d := IntWalk.i64_in _ (by omega)
  by_cases hm : may6 t 2 = true
  · have ht := may6_T hm
    have d1 := c_Do (newS 15 15) x ⟨1, 1, 1, [], t, k⟩ (newS_small 15 15) ⟨by simp, hl⟩
    rw [lease1 ht (by omega) (by omega)] at d1
    have d2 := c_Do (leaseA t k x) (x + d) ⟨2, 1, 2, t, [], 0⟩ (leaseA_small hl) ⟨hl, by simp⟩
    rw [lease2 ht (by omega) (by omega) (by omega)] at d2
    have hsf := c_SameFields t t hl hl
    rw [all2_refl fun y _ => same_refl y] at hsf
    have gB : getP (eS (leaseB t k x (x + d) true)) [1] = some (.list 74 [eI (leaseI t k x)]) := rfl
    have gB2 : getP (eS (leaseB t k x (x + d) false)) [1] = some (.list 74 []) := rfl
    by_cases hz : k = 0
    · have f1 : (k == 0) = true := by simp [hz]
      rw [f1, Bool.true_or] at d2
      repeat' (first
    | simp (implicitDefEqProofs := false) only [env0, List.map_cons, List.map_nil, List.length_cons, List.length_nil, List.take_succ_cons, List.take_zero, List.toList_toArray, r_end, r_seq, r_block, r_region, r_loop, r_cond, r_cond_b, r_bo_t, r_bo_f, r_code_ret, r_code_ex, r_blk_ret, r_blk, r_blk_ex, r_cut, r_op, r_nil, r_skip, r_label, r_exit, r_ret, r_guard, r_g_undef, r_g_b, r_bg_tt, r_bg_ff, r_bg_tf, r_bg_ft, o_assign, o_move, o_pick, rp_b, bp_t, bp_f, bp_b, o_bin, rb_f, rb_eql, rb_neq, isNil_int, isNil_tmp, isNil_bool, isNil_str, isNil_slice, o_load, o_store, o_nilCheck, o_unOp, o_convert, o_extract, o_index, o_indexAddr, o_build, o_fieldAddr, o_field, o_alloc, o_box, rm, rh_new, rh_ret, rh_rd, rhd_some, o_buildSlice, o_makeSlice, o_append, o_len, o_clear, o_min, o_max, o_slice, o_makeFunc, rw_t, o_call, rf_fn, ra_t, d_nil, d_op, d_guard, dg_undef, dg_b, bd_tt, bd_ff, bd_tf, bd_ft, dx, dw_t, dv, tcOf_wr, tcOf_all, ap_wr, ap_all, clear_nil, clear_cons, clr1_some, ds_ret, ds_rd, dd_some, dm_t, do_move, do_assign, do_pick, dp_b, bq_t, bq_f, bq_b, do_load, do_store, do_nilCheck, do_unOp, do_convert, do_extract, do_index, do_indexAddr, do_build, do_fieldAddr, do_field, do_bin, do_slice, do_len, do_clear, do_alloc, do_box, do_buildSlice, do_makeSlice, do_append, do_call, df_fn, da_t, mkO, makes, holeO, apartB, disjB, memB, isE, Tc.isNone, ev, evs, constAV, lk, lkO_some, putD, put, rs_ret, rs_rd, rd_some, wrAll, gslot_0, gslot_succ, pairs, stLoad, stStore, stFieldAddr, stField, stIndexAddr, stIndex, intBin, stBin, stUn, stConv, stLen, stClear, stMin, stBuild, stBuildSlice, stMakeSlice, stNilCheck, stSlice, stAppendTo, stAppend, stBuiltin, stExtract, liveB, getE, getP, setE, setP, fillAV, lenAV, bnd, pIn, isNilB, winGet, nilEq, isSlice, isPtr, ty_int, ty_bool, ty_str, ty_agg, ty_list, ty_win, ty_ref, ty_eref, ty_nilptr, ty_fn, ty_nilfn, ty_nils, pl_int, pl_bool, pl_str, pl_agg, pl_list, pl_win, pl_ref, pl_eref, pl_nilptr, pl_fn, pl_nilfn, pl_nils, wk_int, wk_bool, wk_str, wk_list, wk_win, wk_ref, wk_eref, wk_nilptr, wk_fn, wk_nilfn, wk_nils, wkNil_slice, wk_aggE, wkAgg_struct, wkAgg_arr, List.zipWith_cons_cons, List.zipWith_nil_left, argsOK, wks, List.all_cons, List.all_nil, List.nil_append, List.append_nil, List.cons_append, AEx.fin, get_at0, get_at, set_at0, set_at, len_app, List.append_assoc, Nat.add_assoc, ne_eq, not_false_eq_true, not_true_eq_false, reduceIte, if_true, if_false, reduceCtorEq, Nat.reduceAdd, Nat.reduceSub, Nat.reduceEqDiff, Nat.reduceLT, Nat.reduceLeDiff, Nat.reduceBEq, Nat.reduceMul, Int.reduceLT, Int.reduceLE, Int.reduceEq, Int.reduceToNat, Int.reduceMul, Int.reduceNeg, Nat.add_zero, Nat.zero_add, or_true, true_or, or_false, false_or, and_true, true_and, and_false, false_and, and_self, Bool.and_true, Bool.true_and, Bool.and_false, Bool.false_and, Bool.not_true, Bool.not_false, Bool.or_true, Bool.true_or, Bool.or_false, Bool.false_or, Bool.false_eq_true, Bool.true_eq_false, decide_true, decide_false, decide_eq_true_eq, beq_self_eq_true, Nat.add_eq_left, Nat.left_eq_add, Nat.add_left_cancel_iff, List.replicate_zero, List.drop_nil, List.getElem?_cons_zero, List.getElem?_cons_succ, List.set_cons_zero, List.set_cons_succ, Option.map_some, Option.map_none, Option.isNone_none, Option.isNone_some, Option.isSome_none, Option.isSome_some, sh_2, ok_2, zo_2, za_2, ce_2, ro_2, sh_3, ok_3, zo_3, za_3, ce_3, ro_3, sh_4, ok_4, zo_4, za_4, ce_4, ro_4, sh_9, ok_9, zo_9, za_9, ce_9, ro_9, sh_23, ok_23, zo_23, za_23, ce_23, ro_23, sh_25, ok_25, zo_25, za_25, ce_25, ro_25, fl_25, po_25, sh_27, ok_27, zo_27, za_27, ce_27, ro_27, sh_28, ok_28, zo_28, za_28, ce_28, ro_28, sh_30, ok_30, zo_30, za_30, ce_30, ro_30, fl_30, po_30, sh_31, ok_31, zo_31, za_31, ce_31, ro_31, po_31, sh_33, ok_33, zo_33, za_33, ce_33, ro_33, fl_33, po_33, sh_34, ok_34, zo_34, za_34, ce_34, ro_34, sh_39, ok_39, zo_39, za_39, ce_39, ro_39, fl_39, po_39, sh_47, ok_47, zo_47, za_47, ce_47, ro_47, sh_50, ok_50, zo_50, za_50, ce_50, ro_50, fl_50, po_50, sh_74, ok_74, zo_74, za_74, ce_74, ro_74, fl_74, po_74, bodyOf, Option.getD_some, Go.Proofs.Try.f5, fin_tmp, fin_cell, fk_tmp, fk_nil, fk_ct, ck_rd, ck_some, ck_ret, cell_rd, cell_some, cell_ret, res_int, res_bool, take_self, take_app, lq_normal, lq_exit, lq_ret, hm, hk, hx, hd, hxd, f1, gB, eS_ty, eS_pl, eS_wk, eFs_ty, eFs_pl, eFs_wk, eRs, eR, cast1, cast0, cast2, Int.reduceBEq, Int.reduceBNe, bn1, bn2, bn3, bn4, List.append_eq, bt1, bt2, bt3, bt4, ap_lo, st_lo, st_ne, st_eq, len_st, st_st, sst, at_set, at_set0, at_set2, at_set20, sst2, List.replicate_succ, List.drop_zero]
    | refine bg_yes (fun hb => ?_) (fun hb => ?_)
    | refine bg_no (fun hb => ?_) (fun hb => ?_)
    | refine bo_mk (fun hb => ?_) (fun hb => ?_)
    | refine bp_mk (fun hb => ?_) (fun hb => ?_)
    | refine bd_yes (fun hb => ?_) (fun hb => ?_)
    | refine bd_no (fun hb => ?_) (fun hb => ?_)
    | refine bq_mk (fun hb => ?_) (fun hb => ?_)
    | refine rs_no ?_ ?_
    | refine rs_yes ?_ ?_
    | refine rh_yes ?_ ?_
    | refine ds_no ?_ ?_
    | refine ds_yes ?_ ?_
    | refine dw_mk ?_ ?_
    | refine rs_ite (fun hb => ?_) (fun hb => ?_)
    | refine rh_ite (fun hb => ?_) (fun hb => ?_)
    | refine ds_ite (fun hb => ?_) (fun hb => ?_)
    | refine rq_mk rfl (fun b hb => ?_)
    | refine k_fn (c_MayTuple6 t hl) ?_
    | refine k_fn (c_New 15 15) ?_
    | refine k_fn d1 ?_
    | refine k_fn d2 ?_
    | refine k_fn c_told ?_
    | refine k_fn hsf ?_)
    · have f1 : (k == 0) = false := by simp [hz]
      by_cases hdk : d < k
      · have f2 : decide (d < k) = true := by simp [hdk]
        rw [f1, f2, Bool.false_or] at d2
        repeat' (first
    | simp (implicitDefEqProofs := false) only [env0, List.map_cons, List.map_nil, List.length_cons, List.length_nil, List.take_succ_cons, List.take_zero, List.toList_toArray, r_end, r_seq, r_block, r_region, r_loop, r_cond, r_cond_b, r_bo_t, r_bo_f, r_code_ret, r_code_ex, r_blk_ret, r_blk, r_blk_ex, r_cut, r_op, r_nil, r_skip, r_label, r_exit, r_ret, r_guard, r_g_undef, r_g_b, r_bg_tt, r_bg_ff, r_bg_tf, r_bg_ft, o_assign, o_move, o_pick, rp_b, bp_t, bp_f, bp_b, o_bin, rb_f, rb_eql, rb_neq, isNil_int, isNil_tmp, isNil_bool, isNil_str, isNil_slice, o_load, o_store, o_nilCheck, o_unOp, o_convert, o_extract, o_index, o_indexAddr, o_build, o_fieldAddr, o_field, o_alloc, o_box, rm, rh_new, rh_ret, rh_rd, rhd_some, o_buildSlice, o_makeSlice, o_append, o_len, o_clear, o_min, o_max, o_slice, o_makeFunc, rw_t, o_call, rf_fn, ra_t, d_nil, d_op, d_guard, dg_undef, dg_b, bd_tt, bd_ff, bd_tf, bd_ft, dx, dw_t, dv, tcOf_wr, tcOf_all, ap_wr, ap_all, clear_nil, clear_cons, clr1_some, ds_ret, ds_rd, dd_some, dm_t, do_move, do_assign, do_pick, dp_b, bq_t, bq_f, bq_b, do_load, do_store, do_nilCheck, do_unOp, do_convert, do_extract, do_index, do_indexAddr, do_build, do_fieldAddr, do_field, do_bin, do_slice, do_len, do_clear, do_alloc, do_box, do_buildSlice, do_makeSlice, do_append, do_call, df_fn, da_t, mkO, makes, holeO, apartB, disjB, memB, isE, Tc.isNone, ev, evs, constAV, lk, lkO_some, putD, put, rs_ret, rs_rd, rd_some, wrAll, gslot_0, gslot_succ, pairs, stLoad, stStore, stFieldAddr, stField, stIndexAddr, stIndex, intBin, stBin, stUn, stConv, stLen, stClear, stMin, stBuild, stBuildSlice, stMakeSlice, stNilCheck, stSlice, stAppendTo, stAppend, stBuiltin, stExtract, liveB, getE, getP, setE, setP, fillAV, lenAV, bnd, pIn, isNilB, winGet, nilEq, isSlice, isPtr, ty_int, ty_bool, ty_str, ty_agg, ty_list, ty_win, ty_ref, ty_eref, ty_nilptr, ty_fn, ty_nilfn, ty_nils, pl_int, pl_bool, pl_str, pl_agg, pl_list, pl_win, pl_ref, pl_eref, pl_nilptr, pl_fn, pl_nilfn, pl_nils, wk_int, wk_bool, wk_str, wk_list, wk_win, wk_ref, wk_eref, wk_nilptr, wk_fn, wk_nilfn, wk_nils, wkNil_slice, wk_aggE, wkAgg_struct, wkAgg_arr, List.zipWith_cons_cons, List.zipWith_nil_left, argsOK, wks, List.all_cons, List.all_nil, List.nil_append, List.append_nil, List.cons_append, AEx.fin, get_at0, get_at, set_at0, set_at, len_app, List.append_assoc, Nat.add_assoc, ne_eq, not_false_eq_true, not_true_eq_false, reduceIte, if_true, if_false, reduceCtorEq, Nat.reduceAdd, Nat.reduceSub, Nat.reduceEqDiff, Nat.reduceLT, Nat.reduceLeDiff, Nat.reduceBEq, Nat.reduceMul, Int.reduceLT, Int.reduceLE, Int.reduceEq, Int.reduceToNat, Int.reduceMul, Int.reduceNeg, Nat.add_zero, Nat.zero_add, or_true, true_or, or_false, false_or, and_true, true_and, and_false, false_and, and_self, Bool.and_true, Bool.true_and, Bool.and_false, Bool.false_and, Bool.not_true, Bool.not_false, Bool.or_true, Bool.true_or, Bool.or_false, Bool.false_or, Bool.false_eq_true, Bool.true_eq_false, decide_true, decide_false, decide_eq_true_eq, beq_self_eq_true, Nat.add_eq_left, Nat.left_eq_add, Nat.add_left_cancel_iff, List.replicate_zero, List.drop_nil, List.getElem?_cons_zero, List.getElem?_cons_succ, List.set_cons_zero, List.set_cons_succ, Option.map_some, Option.map_none, Option.isNone_none, Option.isNone_some, Option.isSome_none, Option.isSome_some, sh_2, ok_2, zo_2, za_2, ce_2, ro_2, sh_3, ok_3, zo_3, za_3, ce_3, ro_3, sh_4, ok_4, zo_4, za_4, ce_4, ro_4, sh_9, ok_9, zo_9, za_9, ce_9, ro_9, sh_23, ok_23, zo_23, za_23, ce_23, ro_23, sh_25, ok_25, zo_25, za_25, ce_25, ro_25, fl_25, po_25, sh_27, ok_27, zo_27, za_27, ce_27, ro_27, sh_28, ok_28, zo_28, za_28, ce_28, ro_28, sh_30, ok_30, zo_30, za_30, ce_30, ro_30, fl_30, po_30, sh_31, ok_31, zo_31, za_31, ce_31, ro_31, po_31, sh_33, ok_33, zo_33, za_33, ce_33, ro_33, fl_33, po_33, sh_34, ok_34, zo_34, za_34, ce_34, ro_34, sh_39, ok_39, zo_39, za_39, ce_39, ro_39, fl_39, po_39, sh_47, ok_47, zo_47, za_47, ce_47, ro_47, sh_50, ok_50, zo_50, za_50, ce_50, ro_50, fl_50, po_50, sh_74, ok_74, zo_74, za_74, ce_74, ro_74, fl_74, po_74, bodyOf, Option.getD_some, Go.Proofs.Try.f5, fin_tmp, fin_cell, fk_tmp, fk_nil, fk_ct, ck_rd, ck_some, ck_ret, cell_rd, cell_some, cell_ret, res_int, res_bool, take_self, take_app, lq_normal, lq_exit, lq_ret, hm, hk, hx, hd, hxd, f1, f2, gB, eS_ty, eS_pl, eS_wk, eFs_ty, eFs_pl, eFs_wk, eRs, eR, cast1, cast0, cast2, Int.reduceBEq, Int.reduceBNe, bn1, bn2, bn3, bn4, List.append_eq, bt1, bt2, bt3, bt4, ap_lo, st_lo, st_ne, st_eq, len_st, st_st, sst, at_set, at_set0, at_set2, at_set20, sst2, List.replicate_succ, List.drop_zero]
    | refine bg_yes (fun hb => ?_) (fun hb => ?_)
    | refine bg_no (fun hb => ?_) (fun hb => ?_)
    | refine bo_mk (fun hb => ?_) (fun hb => ?_)
    | refine bp_mk (fun hb => ?_) (fun hb => ?_)
    | refine bd_yes (fun hb => ?_) (fun hb => ?_)
    | refine bd_no (fun hb => ?_) (fun hb => ?_)
    | refine bq_mk (fun hb => ?_) (fun hb => ?_)
    | refine rs_no ?_ ?_
    | refine rs_yes ?_ ?_
    | refine rh_yes ?_ ?_
    | refine ds_no ?_ ?_
    | refine ds_yes ?_ ?_
    | refine dw_mk ?_ ?_
    | refine rs_ite (fun hb => ?_) (fun hb => ?_)
    | refine rh_ite (fun hb => ?_) (fun hb => ?_)
    | refine ds_ite (fun hb => ?_) (fun hb => ?_)
    | refine rq_mk rfl (fun b hb => ?_)
    | refine k_fn (c_MayTuple6 t hl) ?_
    | refine k_fn (c_New 15 15) ?_
    | refine k_fn d1 ?_
    | refine k_fn d2 ?_
    | refine k_fn c_told ?_
    | refine k_fn hsf ?_)
      · have f2 : decide (d < k) = false := by simp; omega
        rw [f1, f2, Bool.false_or] at d2
        repeat' (first
    | simp (implicitDefEqProofs := false) only [env0, List.map_cons, List.map_nil, List.length_cons, List.length_nil, List.take_succ_cons, List.take_zero, List.toList_toArray, r_end, r_seq, r_block, r_region, r_loop, r_cond, r_cond_b, r_bo_t, r_bo_f, r_code_ret, r_code_ex, r_blk_ret, r_blk, r_blk_ex, r_cut, r_op, r_nil, r_skip, r_label, r_exit, r_ret, r_guard, r_g_undef, r_g_b, r_bg_tt, r_bg_ff, r_bg_tf, r_bg_ft, o_assign, o_move, o_pick, rp_b, bp_t, bp_f, bp_b, o_bin, rb_f, rb_eql, rb_neq, isNil_int, isNil_tmp, isNil_bool, isNil_str, isNil_slice, o_load, o_store, o_nilCheck, o_unOp, o_convert, o_extract, o_index, o_indexAddr, o_build, o_fieldAddr, o_field, o_alloc, o_box, rm, rh_new, rh_ret, rh_rd, rhd_some, o_buildSlice, o_makeSlice, o_append, o_len, o_clear, o_min, o_max, o_slice, o_makeFunc, rw_t, o_call, rf_fn, ra_t, d_nil, d_op, d_guard, dg_undef, dg_b, bd_tt, bd_ff, bd_tf, bd_ft, dx, dw_t, dv, tcOf_wr, tcOf_all, ap_wr, ap_all, clear_nil, clear_cons, clr1_some, ds_ret, ds_rd, dd_some, dm_t, do_move, do_assign, do_pick, dp_b, bq_t, bq_f, bq_b, do_load, do_store, do_nilCheck, do_unOp, do_convert, do_extract, do_index, do_indexAddr, do_build, do_fieldAddr, do_field, do_bin, do_slice, do_len, do_clear, do_alloc, do_box, do_buildSlice, do_makeSlice, do_append, do_call, df_fn, da_t, mkO, makes, holeO, apartB, disjB, memB, isE, Tc.isNone, ev, evs, constAV, lk, lkO_some, putD, put, rs_ret, rs_rd, rd_some, wrAll, gslot_0, gslot_succ, pairs, stLoad, stStore, stFieldAddr, stField, stIndexAddr, stIndex, intBin, stBin, stUn, stConv, stLen, stClear, stMin, stBuild, stBuildSlice, stMakeSlice, stNilCheck, stSlice, stAppendTo, stAppend, stBuiltin, stExtract, liveB, getE, getP, setE, setP, fillAV, lenAV, bnd, pIn, isNilB, winGet, nilEq, isSlice, isPtr, ty_int, ty_bool, ty_str, ty_agg, ty_list, ty_win, ty_ref, ty_eref, ty_nilptr, ty_fn, ty_nilfn, ty_nils, pl_int, pl_bool, pl_str, pl_agg, pl_list, pl_win, pl_ref, pl_eref, pl_nilptr, pl_fn, pl_nilfn, pl_nils, wk_int, wk_bool, wk_str, wk_list, wk_win, wk_ref, wk_eref, wk_nilptr, wk_fn, wk_nilfn, wk_nils, wkNil_slice, wk_aggE, wkAgg_struct, wkAgg_arr, List.zipWith_cons_cons, List.zipWith_nil_left, argsOK, wks, List.all_cons, List.all_nil, List.nil_append, List.append_nil, List.cons_append, AEx.fin, get_at0, get_at, set_at0, set_at, len_app, List.append_assoc, Nat.add_assoc, ne_eq, not_false_eq_true, not_true_eq_false, reduceIte, if_true, if_false, reduceCtorEq, Nat.reduceAdd, Nat.reduceSub, Nat.reduceEqDiff, Nat.reduceLT, Nat.reduceLeDiff, Nat.reduceBEq, Nat.reduceMul, Int.reduceLT, Int.reduceLE, Int.reduceEq, Int.reduceToNat, Int.reduceMul, Int.reduceNeg, Nat.add_zero, Nat.zero_add, or_true, true_or, or_false, false_or, and_true, true_and, and_false, false_and, and_self, Bool.and_true, Bool.true_and, Bool.and_false, Bool.false_and, Bool.not_true, Bool.not_false, Bool.or_true, Bool.true_or, Bool.or_false, Bool.false_or, Bool.false_eq_true, Bool.true_eq_false, decide_true, decide_false, decide_eq_true_eq, beq_self_eq_true, Nat.add_eq_left, Nat.left_eq_add, Nat.add_left_cancel_iff, List.replicate_zero, List.drop_nil, List.getElem?_cons_zero, List.getElem?_cons_succ, List.set_cons_zero, List.set_cons_succ, Option.map_some, Option.map_none, Option.isNone_none, Option.isNone_some, Option.isSome_none, Option.isSome_some, sh_2, ok_2, zo_2, za_2, ce_2, ro_2, sh_3, ok_3, zo_3, za_3, ce_3, ro_3, sh_4, ok_4, zo_4, za_4, ce_4, ro_4, sh_9, ok_9, zo_9, za_9, ce_9, ro_9, sh_23, ok_23, zo_23, za_23, ce_23, ro_23, sh_25, ok_25, zo_25, za_25, ce_25, ro_25, fl_25, po_25, sh_27, ok_27, zo_27, za_27, ce_27, ro_27, sh_28, ok_28, zo_28, za_28, ce_28, ro_28, sh_30, ok_30, zo_30, za_30, ce_30, ro_30, fl_30, po_30, sh_31, ok_31, zo_31, za_31, ce_31, ro_31, po_31, sh_33, ok_33, zo_33, za_33, ce_33, ro_33, fl_33, po_33, sh_34, ok_34, zo_34, za_34, ce_34, ro_34, sh_39, ok_39, zo_39, za_39, ce_39, ro_39, fl_39, po_39, sh_47, ok_47, zo_47, za_47, ce_47, ro_47, sh_50, ok_50, zo_50, za_50, ce_50, ro_50, fl_50, po_50, sh_74, ok_74, zo_74, za_74, ce_74, ro_74, fl_74, po_74, bodyOf, Option.getD_some, Go.Proofs.Try.f5, fin_tmp, fin_cell, fk_tmp, fk_nil, fk_ct, ck_rd, ck_some, ck_ret, cell_rd, cell_some, cell_ret, res_int, res_bool, take_self, take_app, lq_normal, lq_exit, lq_ret, hm, hk, hx, hd, hxd, f1, f2, gB2, eS_ty, eS_pl, eS_wk, eFs_ty, eFs_pl, eFs_wk, eRs, eR, cast1, cast0, cast2, Int.reduceBEq, Int.reduceBNe, bn1, bn2, bn3, bn4, List.append_eq, bt1, bt2, bt3, bt4, ap_lo, st_lo, st_ne, st_eq, len_st, st_st, sst, at_set, at_set0, at_set2, at_set20, sst2, List.replicate_succ, List.drop_zero]
    | refine bg_yes (fun hb => ?_) (fun hb => ?_)
    | refine bg_no (fun hb => ?_) (fun hb => ?_)
    | refine bo_mk (fun hb => ?_) (fun hb => ?_)
    | refine bp_mk (fun hb => ?_) (fun hb => ?_)
    | refine bd_yes (fun hb => ?_) (fun hb => ?_)
    | refine bd_no (fun hb => ?_) (fun hb => ?_)
    | refine bq_mk (fun hb => ?_) (fun hb => ?_)
    | refine rs_no ?_ ?_
    | refine rs_yes ?_ ?_
    | refine rh_yes ?_ ?_
    | refine ds_no ?_ ?_
    | refine ds_yes ?_ ?_
    | refine dw_mk ?_ ?_
    | refine rs_ite (fun hb => ?_) (fun hb => ?_)
    | refine rh_ite (fun hb => ?_) (fun hb => ?_)
    | refine ds_ite (fun hb => ?_) (fun hb => ?_)
    | refine rq_mk rfl (fun b hb => ?_)
    | refine k_fn (c_MayTuple6 t hl) ?_
    | refine k_fn (c_New 15 15) ?_
    | refine k_fn d1 ?_
    | refine k_fn d2 ?_
    | refine k_fn c_told ?_
    | refine k_fn hsf ?_)
  · have hm : may6 t 2 = false := by simpa using hm
    repeat' (first
    | simp (implicitDefEqProofs := false) only [env0, List.map_cons, List.map_nil, List.length_cons, List.length_nil, List.take_succ_cons, List.take_zero, List.toList_toArray, r_end, r_seq, r_block, r_region, r_loop, r_cond, r_cond_b, r_bo_t, r_bo_f, r_code_ret, r_code_ex, r_blk_ret, r_blk, r_blk_ex, r_cut, r_op, r_nil, r_skip, r_label, r_exit, r_ret, r_guard, r_g_undef, r_g_b, r_bg_tt, r_bg_ff, r_bg_tf, r_bg_ft, o_assign, o_move, o_pick, rp_b, bp_t, bp_f, bp_b, o_bin, rb_f, rb_eql, rb_neq, isNil_int, isNil_tmp, isNil_bool, isNil_str, isNil_slice, o_load, o_store, o_nilCheck, o_unOp, o_convert, o_extract, o_index, o_indexAddr, o_build, o_fieldAddr, o_field, o_alloc, o_box, rm, rh_new, rh_ret, rh_rd, rhd_some, o_buildSlice, o_makeSlice, o_append, o_len, o_clear, o_min, o_max, o_slice, o_makeFunc, rw_t, o_call, rf_fn, ra_t, d_nil, d_op, d_guard, dg_undef, dg_b, bd_tt, bd_ff, bd_tf, bd_ft, dx, dw_t, dv, tcOf_wr, tcOf_all, ap_wr, ap_all, clear_nil, clear_cons, clr1_some, ds_ret, ds_rd, dd_some, dm_t, do_move, do_assign, do_pick, dp_b, bq_t, bq_f, bq_b, do_load, do_store, do_nilCheck, do_unOp, do_convert, do_extract, do_index, do_indexAddr, do_build, do_fieldAddr, do_field, do_bin, do_slice, do_len, do_clear, do_alloc, do_box, do_buildSlice, do_makeSlice, do_append, do_call, df_fn, da_t, mkO, makes, holeO, apartB, disjB, memB, isE, Tc.isNone, ev, evs, constAV, lk, lkO_some, putD, put, rs_ret, rs_rd, rd_some, wrAll, gslot_0, gslot_succ, pairs, stLoad, stStore, stFieldAddr, stField, stIndexAddr, stIndex, intBin, stBin, stUn, stConv, stLen, stClear, stMin, stBuild, stBuildSlice, stMakeSlice, stNilCheck, stSlice, stAppendTo, stAppend, stBuiltin, stExtract, liveB, getE, getP, setE, setP, fillAV, lenAV, bnd, pIn, isNilB, winGet, nilEq, isSlice, isPtr, ty_int, ty_bool, ty_str, ty_agg, ty_list, ty_win, ty_ref, ty_eref, ty_nilptr, ty_fn, ty_nilfn, ty_nils, pl_int, pl_bool, pl_str, pl_agg, pl_list, pl_win, pl_ref, pl_eref, pl_nilptr, pl_fn, pl_nilfn, pl_nils, wk_int, wk_bool, wk_str, wk_list, wk_win, wk_ref, wk_eref, wk_nilptr, wk_fn, wk_nilfn, wk_nils, wkNil_slice, wk_aggE, wkAgg_struct, wkAgg_arr, List.zipWith_cons_cons, List.zipWith_nil_left, argsOK, wks, List.all_cons, List.all_nil, List.nil_append, List.append_nil, List.cons_append, AEx.fin, get_at0, get_at, set_at0, set_at, len_app, List.append_assoc, Nat.add_assoc, ne_eq, not_false_eq_true, not_true_eq_false, reduceIte, if_true, if_false, reduceCtorEq, Nat.reduceAdd, Nat.reduceSub, Nat.reduceEqDiff, Nat.reduceLT, Nat.reduceLeDiff, Nat.reduceBEq, Nat.reduceMul, Int.reduceLT, Int.reduceLE, Int.reduceEq, Int.reduceToNat, Int.reduceMul, Int.reduceNeg, Nat.add_zero, Nat.zero_add, or_true, true_or, or_false, false_or, and_true, true_and, and_false, false_and, and_self, Bool.and_true, Bool.true_and, Bool.and_false, Bool.false_and, Bool.not_true, Bool.not_false, Bool.or_true, Bool.true_or, Bool.or_false, Bool.false_or, Bool.false_eq_true, Bool.true_eq_false, decide_true, decide_false, decide_eq_true_eq, beq_self_eq_true, Nat.add_eq_left, Nat.left_eq_add, Nat.add_left_cancel_iff, List.replicate_zero, List.drop_nil, List.getElem?_cons_zero, List.getElem?_cons_succ, List.set_cons_zero, List.set_cons_succ, Option.map_some, Option.map_none, Option.isNone_none, Option.isNone_some, Option.isSome_none, Option.isSome_some, sh_2, ok_2, zo_2, za_2, ce_2, ro_2, sh_3, ok_3, zo_3, za_3, ce_3, ro_3, sh_4, ok_4, zo_4, za_4, ce_4, ro_4, sh_9, ok_9, zo_9, za_9, ce_9, ro_9, sh_23, ok_23, zo_23, za_23, ce_23, ro_23, sh_25, ok_25, zo_25, za_25, ce_25, ro_25, fl_25, po_25, sh_27, ok_27, zo_27, za_27, ce_27, ro_27, sh_28, ok_28, zo_28, za_28, ce_28, ro_28, sh_30, ok_30, zo_30, za_30, ce_30, ro_30, fl_30, po_30, sh_31, ok_31, zo_31, za_31, ce_31, ro_31, po_31, sh_33, ok_33, zo_33, za_33, ce_33, ro_33, fl_33, po_33, sh_34, ok_34, zo_34, za_34, ce_34, ro_34, sh_39, ok_39, zo_39, za_39, ce_39, ro_39, fl_39, po_39, sh_47, ok_47, zo_47, za_47, ce_47, ro_47, sh_50, ok_50, zo_50, za_50, ce_50, ro_50, fl_50, po_50, sh_74, ok_74, zo_74, za_74, ce_74, ro_74, fl_74, po_74, bodyOf, Option.getD_some, Go.Proofs.Try.f5, fin_tmp, fin_cell, fk_tmp, fk_nil, fk_ct, ck_rd, ck_some, ck_ret, cell_rd, cell_some, cell_ret, res_int, res_bool, take_self, take_app, lq_normal, lq_exit, lq_ret, hm, eFs_ty, eFs_pl, eFs_wk]
    | refine bg_yes (fun hb => ?_) (fun hb => ?_)
    | refine bg_no (fun hb => ?_) (fun hb => ?_)
    | refine bo_mk (fun hb => ?_) (fun hb => ?_)
    | refine bp_mk (fun hb => ?_) (fun hb => ?_)
    | refine bd_yes (fun hb => ?_) (fun hb => ?_)
    | refine bd_no (fun hb => ?_) (fun hb => ?_)
    | refine bq_mk (fun hb => ?_) (fun hb => ?_)
    | refine rs_no ?_ ?_
    | refine rs_yes ?_ ?_
    | refine rh_yes ?_ ?_
    | refine ds_no ?_ ?_
    | refine ds_yes ?_ ?_
    | refine dw_mk ?_ ?_
    | refine rs_ite (fun hb => ?_) (fun hb => ?_)
    | refine rh_ite (fun hb => ?_) (fun hb => ?_)
    | refine ds_ite (fun hb => ?_) (fun hb => ?_)
    | refine rq_mk rfl (fun b hb => ?_)
    | refine k_fn (c_MayTuple6 t hl) ?_
    | refine k_fn c_told ?_)

end Go.Abs
