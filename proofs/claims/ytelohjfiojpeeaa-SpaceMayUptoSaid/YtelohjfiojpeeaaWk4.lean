/- Wk4: a part of the proofs about the tuple space (layer 8). -/
import Derived.Test.YtelohjfiojpeeaaWk3
set_option linter.all false
set_option maxRecDepth 100000
set_option maxHeartbeats 0
namespace Go.Abs
open Go
open Go.Proofs.Try (prog)
/-! ### bring, find, turn, do -/
theorem view_wkbw {X : Nat → Prop} {h : List Entry} {T U : TypeId} {v : AV} {l : List AV} (hv : View X h T v l) (hd : datL l = true) (hU : shapeT prog U = .slice T) (n m : Nat) : bw h (n + 1) (wk prog (m + 1) U v) = .list T l := by
  cases hv with
  | nil => rw [wk_nils, hU, wkNil_slice]; rfl
  | win hx hk =>
    rw [wk_win]
    rcases View.bw (View.win (lo := _) hx hk) hd n with h | ⟨h1, h2⟩
    · exact h
    · rw [bw_winE, hk, bwWin_own] at h2 ⊢
      have : winGet (l ++ ‹_›) [] 0 l.length = some l := by simp [winGet]
      rw [this, bwWinO_some, datL_bw l n hd]
theorem bw_work {h : List Entry} {k : Nat} {s : Spc} {r : Req} {vi vw vo : AV} (hk : h[k]? = some (wkE s r vi vw vo)) : bw h 8 (.ref k [0] 71) =
    .eref 71 (.agg 71 [.agg 33 [.int .i64 s.Now, bw h 5 vi, bw h 5 vw, .int .i64 s.Read, .int .i64 s.Write, eL s.Last], eQ r, bw h 6 vo]) := by
  rw [bw_refE, hk, wkE, bwRef_own]
  simp only [getE, List.getElem?_cons_zero, getP, bwRefO_some, bw_aggE, List.map_cons, List.map_nil, dat_bw _ _ (eL_dat _), dat_bw _ _ (eQ_dat _)]
  rfl
theorem bw_below {X : Nat → Prop} {h : List Entry} {T : TypeId} {v : AV} {l : List AV} (hv : View X h T v l) (hd : datL l = true) (n : Nat) : below 0 (bw h (n + 1) v) = true := by
  rcases hv.bw hd n with e | ⟨_, e⟩ <;> rw [e]
  · simp only [below]; exact datL_below _ hd
  · rfl
theorem c_fullO {X : Nat → Prop} {k : Nat} {s : Spc} {r : Req} {out : List Rpl} {h : List Entry} (g : Int) (hI : s.Items.length ≤ 4294967296) (hw : WS X k s r out h) :
    FSpec prog 84 [.ref k [0] 71, .int .i64 g] h fun r' h'' => r' = .bool (fullS s r g) ∧ h'' = h := by
  obtain ⟨b, o, vi, vw, vo, hk, h1, h2, h3⟩ := hw
  have hvi : bw h 5 vi = eIs s.Items ∨ (s.Items = [] ∧ bw h 5 vi = .nils) := by
    rcases h1.bw (datL_map eI eI_dat _) 4 with e | ⟨e, e'⟩
    · exact .inl e
    · exact .inr ⟨by simpa using e, e'⟩
  refine (FSpec.borrow wfp (args := [.ref k [0] 71, .int .i64 g]) (R := fun r' => r' = .bool (fullS s r g)) ?_ ?_ (by rintro r' rfl; rfl)).mono fun r' h' ⟨e1, e2⟩ => ⟨e2, e1⟩
  · simp only [List.map_cons, List.map_nil, bw_work hk]
    exact c_full s r g hI hvi
  · simp only [List.map_cons, List.map_nil, bw_work hk, List.all_cons, List.all_nil, Bool.and_true, below, belowL, bw_below h1 (datL_map eI eI_dat _) 4, bw_below h2 (datL_map eW eW_dat _) 4, bw_below h3 (datL_map eR eR_dat _) 5, dat_below _ (eL_dat _), dat_below _ (eQ_dat _), Bool.and_self]
    rfl
theorem c_FindO {X : Nat → Prop} {k : Nat} {s : Spc} {r : Req} {out : List Rpl} {h : List Entry} {vi vw vo : AV} (hI : smallI s.Items) (hP : r.P.length ≤ 4294967296) (h1 : View X h 74 vi (s.Items.map eI)) (h2 : View X h 50 vw (s.Waiters.map eW)) :
    FSpec prog 19 [.agg 33 [.int .i64 s.Now, wk prog 5 27 vi, wk prog 5 28 vw, .int .i64 s.Read, .int .i64 s.Write, eL s.Last], eFs r.P] h fun r' h'' => r' = .int .i64 (findS s r.P) ∧ h'' = h := by
  have e : [.agg 33 [.int .i64 s.Now, wk prog 5 27 vi, wk prog 5 28 vw, .int .i64 s.Read, .int .i64 s.Write, eL s.Last], eFs r.P].map (bw h 8) = [eS s, eFs r.P] := by
    simp only [List.map_cons, List.map_nil, bw_aggE, view_wkbw h1 (datL_map eI eI_dat _) sh_27 6 4, view_wkbw h2 (datL_map eW eW_dat _) sh_28 6 4, dat_bw _ _ (eL_dat _), dat_bw _ _ (eFs_dat' _), eS, eIs, eWs]
    rfl
  refine (FSpec.borrow wfp (R := fun r' => r' = .int .i64 (findS s r.P)) ?_ ?_ (by rintro r' rfl; rfl)).mono fun r' h' ⟨e1, e2⟩ => ⟨e2, e1⟩
  · rw [e]; exact c_Find s r.P hI hP
  · rw [e]; simp only [List.all_cons, List.all_nil, Bool.and_true, dat_below (n := 0) _ (eS_dat s), dat_below (n := 0) _ (eFs_dat' r.P), Bool.and_self]

def rep (r : Req) (kd : Int) (t : List Fld) : Rpl := ⟨r.Client, r.Seq, kd, t, false⟩
def tellS (s : Spc) (r : Req) (kd : Int) (t : List Fld) : Spc := { s with Last := s.Last.set r.Client.toNat (rep r kd t) }
structure Rdy (s : Spc) (r : Req) (out : List Rpl) : Prop where
  l4 : s.Last.length = 4
  wl : s.Waiters.length ≤ 1000
  il : s.Items.length ≤ 1000
  ol : out.length ≤ 1000
  cl : ∀ x ∈ s.Waiters, clientOK x.Client = true ∧ x.P.length ≤ 4294967296
  it : ∀ x ∈ s.Items, x.T.length ≤ 4294967296
  now : 0 ≤ s.Now ∧ s.Now ≤ 1099511627776
  rc : clientOK r.Client = true
  rT : r.T.length ≤ 4294967296
  rP : r.P.length ≤ 4294967296
  ls : r.Lease ≤ 1099511627776
theorem Rdy.small {s : Spc} {r : Req} {out : List Rpl} (h : Rdy s r out) : smallI s.Items := ⟨by have := h.il; omega, h.it⟩
theorem Rdy.pi {s : Spc} {r : Req} {out : List Rpl} (h : Rdy s r out) : PI s r out [] s.Waiters s out := ⟨rfl, rfl, rfl, rfl, h.l4, by have := h.ol; have := h.wl; omega, by have := h.wl; simp; omega, h.cl⟩
theorem Rdy.tell {s : Spc} {r : Req} {out : List Rpl} (h : Rdy s r out) (kd : Int) (t : List Fld) (o : List Rpl) (ho : o.length ≤ 1000) : Rdy (tellS s r kd t) r o :=
  ⟨by simp [tellS, h.l4], h.wl, h.il, ho, h.cl, h.it, h.now, h.rc, h.rT, h.rP, h.ls⟩
theorem Rdy.take {s : Spc} {r : Req} {out : List Rpl} (h : Rdy s r out) (i : Nat) : Rdy { s with Items := s.Items.eraseIdx i } r out :=
  ⟨h.l4, h.wl, by have := h.il; have := List.length_eraseIdx_le s.Items i; show (s.Items.eraseIdx i).length ≤ 1000; omega, h.ol, h.cl, fun x hx => h.it x (List.mem_of_mem_eraseIdx hx), h.now, h.rc, h.rT, h.rP, h.ls⟩
/-- a method that is done, however the entries lie -/
def Mtn (f : FuncId) (args : List AV) (X : Nat → Prop) (k : Nat) (r : Req) (h : List Entry) (s' : Spc) (out' : List Rpl) : Prop :=
  FSpec prog f (.ref k [0] 71 :: args) h fun r' h' => r' = .tup [] ∧ WS (grow X h h') k s' r out' h' ∧ Keeps X h h'
theorem Mth.n {f : FuncId} {args : List AV} {X : Nat → Prop} {k : Nat} {r : Req} {h : List Entry} {s' : Spc} {out' : List Rpl} (m : Mth f args X k r h s' out') : Mtn f args X k r h s' out' := by
  obtain ⟨h', w1, w2, w3⟩ := m
  exact w3.mono fun r' h'' ⟨e1, e2⟩ => by subst e2; exact ⟨e1, w1, w2⟩
theorem c_tellS {X : Nat → Prop} {k : Nat} {s : Spc} {r : Req} {out : List Rpl} {h : List Entry} (kd : Int) (t : List Fld) (ht : t.length ≤ 4294967296) (hr : Rdy s r out) (hw : WS X k s r out h) :
    Mth 71 [.int .i64 kd, eFs t] X k r h (tellS s r kd t) (out ++ [rep r kd t]) := by
  obtain ⟨c, hc, hc4⟩ := nat_client hr.rc
  have := c_tell kd t c hc hc4 hr.l4 ht (by have := hr.ol; omega) hw
  have e : r.Client.toNat = c := by rw [hc]; rfl
  rw [tellS, e]
  exact this
theorem k_mtn {f : FuncId} {args : List AV} {X : Nat → Prop} {k : Nat} {r : Req} {h : List Entry} {s' : Spc} {out' : List Rpl} {raw : List AV} {d : Option Tmp} {st : List Ctl} {env : Env} {Q : APost} (m : Mtn f args X k r h s' out')
    (hk : ∀ h', WS (grow X h h') k s' r out' h' → Keeps X h h' → Rn prog st .normal (putD env d (.tup [])) h' Q) : Rk prog f (.ref k [0] 71 :: args) raw d st env h Q :=
  k_spec m fun r' h' ⟨e, w1, w2⟩ => by rw [e]; exact hk h' w1 w2
/-- one method behind another -/
theorem WS.seq {X : Nat → Prop} {h h1 h2 : List Entry} {k : Nat} {s : Spc} {r : Req} {out : List Rpl} (w : WS (grow (grow X h h1) h1 h2) k s r out h2) (a : Keeps X h h1) (b : Keeps (grow X h h1) h1 h2) : WS (grow X h h2) k s r out h2 := by
  rw [grow_grow a.len b.len] at w; exact w
def bringS (s : Spc) (r : Req) (out : List Rpl) : Spc × List Rpl := if fullS s r (-1) = true then (tellS s r 5 [], out ++ [rep r 5 []]) else putGo r [] s.Waiters (tellS s r 1 []) (out ++ [rep r 1 []])
theorem c_bring {X : Nat → Prop} {k : Nat} {s : Spc} {r : Req} {out : List Rpl} {h : List Entry} (ho : out.length < 1000) (hr : Rdy s r out) (hw : WS X k s r out h) :
    Mtn 72 [] X k r h (bringS s r out).1 (bringS s r out).2 := by
  have hf := c_fullO (-1) (by have := hr.il; omega) hw
  refine frun_72 rfl ?_
  by_cases hfu : fullS s r (-1) = true
  · have e : bringS s r out = (tellS s r 5 [], out ++ [rep r 5 []]) := by rw [bringS, if_pos hfu]
    rw [e]
    repeat' (first
    | simp (implicitDefEqProofs := false) only [env0, List.map_cons, List.map_nil, List.length_cons, List.length_nil, List.take_succ_cons, List.take_zero, List.toList_toArray, r_end, r_seq, r_block, r_region, r_loop, r_cond, r_cond_b, r_bo_t, r_bo_f, r_code_ret, r_code_ex, r_blk_ret, r_blk, r_blk_ex, r_cut, r_op, r_nil, r_skip, r_label, r_exit, r_ret, r_guard, r_g_undef, r_g_b, r_bg_tt, r_bg_ff, r_bg_tf, r_bg_ft, o_assign, o_move, o_pick, rp_b, bp_t, bp_f, bp_b, o_bin, rb_f, rb_eql, rb_neq, isNil_int, isNil_tmp, isNil_bool, isNil_str, isNil_slice, o_load, o_store, o_nilCheck, o_unOp, o_convert, o_extract, o_index, o_indexAddr, o_build, o_fieldAddr, o_field, o_alloc, o_box, rm, rh_new, rh_ret, rh_rd, rhd_some, o_buildSlice, o_makeSlice, o_append, o_len, o_clear, o_min, o_max, o_slice, o_makeFunc, rw_t, o_call, rf_fn, ra_t, d_nil, d_op, d_guard, dg_undef, dg_b, bd_tt, bd_ff, bd_tf, bd_ft, dx, dw_t, dv, tcOf_wr, tcOf_all, ap_wr, ap_all, clear_nil, clear_cons, clr1_some, ds_ret, ds_rd, dd_some, dm_t, do_move, do_assign, do_pick, dp_b, bq_t, bq_f, bq_b, do_load, do_store, do_nilCheck, do_unOp, do_convert, do_extract, do_index, do_indexAddr, do_build, do_fieldAddr, do_field, do_bin, do_slice, do_len, do_clear, do_alloc, do_box, do_buildSlice, do_makeSlice, do_append, do_call, df_fn, da_t, mkO, makes, holeO, apartB, disjB, memB, isE, Tc.isNone, ev, evs, constAV, lk, lkO_some, putD, put, rs_ret, rs_rd, rd_some, wrAll, gslot_0, gslot_succ, pairs, stLoad, stStore, stFieldAddr, stField, stIndexAddr, stIndex, intBin, stBin, stUn, stConv, stLen, stClear, stMin, stBuild, stBuildSlice, stMakeSlice, stNilCheck, stSlice, stAppendTo, stAppend, stBuiltin, stExtract, liveB, getE, getP, setE, setP, fillAV, lenAV, bnd, pIn, isNilB, winGet, nilEq, isSlice, isPtr, ty_int, ty_bool, ty_str, ty_agg, ty_list, ty_win, ty_ref, ty_eref, ty_nilptr, ty_fn, ty_nilfn, ty_nils, pl_int, pl_bool, pl_str, pl_agg, pl_list, pl_win, pl_ref, pl_eref, pl_nilptr, pl_fn, pl_nilfn, pl_nils, wk_int, wk_bool, wk_str, wk_list, wk_win, wk_ref, wk_eref, wk_nilptr, wk_fn, wk_nilfn, wk_nils, wkNil_slice, wk_aggE, wkAgg_struct, wkAgg_arr, List.zipWith_cons_cons, List.zipWith_nil_left, argsOK, wks, List.all_cons, List.all_nil, List.nil_append, List.append_nil, List.cons_append, AEx.fin, get_at0, get_at, set_at0, set_at, len_app, List.append_assoc, Nat.add_assoc, ne_eq, not_false_eq_true, not_true_eq_false, reduceIte, if_true, if_false, reduceCtorEq, Nat.reduceAdd, Nat.reduceSub, Nat.reduceEqDiff, Nat.reduceLT, Nat.reduceLeDiff, Nat.reduceBEq, Nat.reduceMul, Int.reduceLT, Int.reduceLE, Int.reduceEq, Int.reduceToNat, Int.reduceMul, Int.reduceNeg, Nat.add_zero, Nat.zero_add, or_true, true_or, or_false, false_or, and_true, true_and, and_false, false_and, and_self, Bool.and_true, Bool.true_and, Bool.and_false, Bool.false_and, Bool.not_true, Bool.not_false, Bool.or_true, Bool.true_or, Bool.or_false, Bool.false_or, Bool.false_eq_true, Bool.true_eq_false, decide_true, decide_false, decide_eq_true_eq, beq_self_eq_true, Nat.add_eq_left, Nat.left_eq_add, Nat.add_left_cancel_iff, List.replicate_zero, List.drop_nil, List.getElem?_cons_zero, List.getElem?_cons_succ, List.set_cons_zero, List.set_cons_succ, Option.map_some, Option.map_none, Option.isNone_none, Option.isNone_some, Option.isSome_none, Option.isSome_some, sh_2, ok_2, zo_2, za_2, ce_2, ro_2, sh_3, ok_3, zo_3, za_3, ce_3, ro_3, sh_4, ok_4, zo_4, za_4, ce_4, ro_4, sh_9, ok_9, zo_9, za_9, ce_9, ro_9, sh_23, ok_23, zo_23, za_23, ce_23, ro_23, sh_25, ok_25, zo_25, za_25, ce_25, ro_25, fl_25, po_25, sh_27, ok_27, zo_27, za_27, ce_27, ro_27, sh_28, ok_28, zo_28, za_28, ce_28, ro_28, sh_30, ok_30, zo_30, za_30, ce_30, ro_30, fl_30, po_30, sh_31, ok_31, zo_31, za_31, ce_31, ro_31, po_31, sh_33, ok_33, zo_33, za_33, ce_33, ro_33, fl_33, po_33, sh_34, ok_34, zo_34, za_34, ce_34, ro_34, sh_39, ok_39, zo_39, za_39, ce_39, ro_39, fl_39, po_39, sh_50, ok_50, zo_50, za_50, ce_50, ro_50, fl_50, po_50, sh_69, ok_69, zo_69, za_69, ce_69, ro_69, sh_71, ok_71, zo_71, za_71, ce_71, ro_71, fl_71, po_71, sh_74, ok_74, zo_74, za_74, ce_74, ro_74, fl_74, po_74, bodyOf, Option.getD_some, Go.Proofs.Try.f72, fin_tmp, fin_cell, fk_tmp, fk_nil, fk_ct, ck_rd, ck_some, ck_ret, cell_rd, cell_some, cell_ret, res_int, res_bool, take_self, take_app, lq_normal, lq_exit, lq_ret, hfu]
    | refine bg_yes (fun hb => ?_) (fun hb => ?_)
    | refine bg_no (fun hb => ?_) (fun hb => ?_)
    | refine bo_mk (fun hb => ?_) (fun hb => ?_)
    | refine bp_mk (fun hb => ?_) (fun hb => ?_)
    | refine bd_yes (fun hb => ?_) (fun hb => ?_)
    | refine bd_no (fun hb => ?_) (fun hb => ?_)
    | refine bq_mk (fun hb => ?_) (fun hb => ?_)
    | refine rs_no ?_ ?_
    | refine rs_yes ?_ ?_
    | refine rh_yes ?_ ?_
    | refine ds_no ?_ ?_
    | refine ds_yes ?_ ?_
    | refine dw_mk ?_ ?_
    | refine rs_ite (fun hb => ?_) (fun hb => ?_)
    | refine rh_ite (fun hb => ?_) (fun hb => ?_)
    | refine ds_ite (fun hb => ?_) (fun hb => ?_)
    | refine rq_mk rfl (fun b hb => ?_)
    | refine k_det hf ?_
    | refine k_mtn (c_tellS 5 [] (by simp) hr hw).n fun h1 w1 p1 => ?_)
    exact ⟨w1, p1⟩
  · have e : bringS s r out = putGo r [] s.Waiters (tellS s r 1 []) (out ++ [rep r 1 []]) := by rw [bringS, if_neg hfu]
    have hfu : fullS s r (-1) = false := by simpa using hfu
    rw [e]
    have hr1 := hr.tell 1 [] (out ++ [rep r 1 []]) (by simp; omega)
    repeat' (first
    | simp (implicitDefEqProofs := false) only [env0, List.map_cons, List.map_nil, List.length_cons, List.length_nil, List.take_succ_cons, List.take_zero, List.toList_toArray, r_end, r_seq, r_block, r_region, r_loop, r_cond, r_cond_b, r_bo_t, r_bo_f, r_code_ret, r_code_ex, r_blk_ret, r_blk, r_blk_ex, r_cut, r_op, r_nil, r_skip, r_label, r_exit, r_ret, r_guard, r_g_undef, r_g_b, r_bg_tt, r_bg_ff, r_bg_tf, r_bg_ft, o_assign, o_move, o_pick, rp_b, bp_t, bp_f, bp_b, o_bin, rb_f, rb_eql, rb_neq, isNil_int, isNil_tmp, isNil_bool, isNil_str, isNil_slice, o_load, o_store, o_nilCheck, o_unOp, o_convert, o_extract, o_index, o_indexAddr, o_build, o_fieldAddr, o_field, o_alloc, o_box, rm, rh_new, rh_ret, rh_rd, rhd_some, o_buildSlice, o_makeSlice, o_append, o_len, o_clear, o_min, o_max, o_slice, o_makeFunc, rw_t, o_call, rf_fn, ra_t, d_nil, d_op, d_guard, dg_undef, dg_b, bd_tt, bd_ff, bd_tf, bd_ft, dx, dw_t, dv, tcOf_wr, tcOf_all, ap_wr, ap_all, clear_nil, clear_cons, clr1_some, ds_ret, ds_rd, dd_some, dm_t, do_move, do_assign, do_pick, dp_b, bq_t, bq_f, bq_b, do_load, do_store, do_nilCheck, do_unOp, do_convert, do_extract, do_index, do_indexAddr, do_build, do_fieldAddr, do_field, do_bin, do_slice, do_len, do_clear, do_alloc, do_box, do_buildSlice, do_makeSlice, do_append, do_call, df_fn, da_t, mkO, makes, holeO, apartB, disjB, memB, isE, Tc.isNone, ev, evs, constAV, lk, lkO_some, putD, put, rs_ret, rs_rd, rd_some, wrAll, gslot_0, gslot_succ, pairs, stLoad, stStore, stFieldAddr, stField, stIndexAddr, stIndex, intBin, stBin, stUn, stConv, stLen, stClear, stMin, stBuild, stBuildSlice, stMakeSlice, stNilCheck, stSlice, stAppendTo, stAppend, stBuiltin, stExtract, liveB, getE, getP, setE, setP, fillAV, lenAV, bnd, pIn, isNilB, winGet, nilEq, isSlice, isPtr, ty_int, ty_bool, ty_str, ty_agg, ty_list, ty_win, ty_ref, ty_eref, ty_nilptr, ty_fn, ty_nilfn, ty_nils, pl_int, pl_bool, pl_str, pl_agg, pl_list, pl_win, pl_ref, pl_eref, pl_nilptr, pl_fn, pl_nilfn, pl_nils, wk_int, wk_bool, wk_str, wk_list, wk_win, wk_ref, wk_eref, wk_nilptr, wk_fn, wk_nilfn, wk_nils, wkNil_slice, wk_aggE, wkAgg_struct, wkAgg_arr, List.zipWith_cons_cons, List.zipWith_nil_left, argsOK, wks, List.all_cons, List.all_nil, List.nil_append, List.append_nil, List.cons_append, AEx.fin, get_at0, get_at, set_at0, set_at, len_app, List.append_assoc, Nat.add_assoc, ne_eq, not_false_eq_true, not_true_eq_false, reduceIte, if_true, if_false, reduceCtorEq, Nat.reduceAdd, Nat.reduceSub, Nat.reduceEqDiff, Nat.reduceLT, Nat.reduceLeDiff, Nat.reduceBEq, Nat.reduceMul, Int.reduceLT, Int.reduceLE, Int.reduceEq, Int.reduceToNat, Int.reduceMul, Int.reduceNeg, Nat.add_zero, Nat.zero_add, or_true, true_or, or_false, false_or, and_true, true_and, and_false, false_and, and_self, Bool.and_true, Bool.true_and, Bool.and_false, Bool.false_and, Bool.not_true, Bool.not_false, Bool.or_true, Bool.true_or, Bool.or_false, Bool.false_or, Bool.false_eq_true, Bool.true_eq_false, decide_true, decide_false, decide_eq_true_eq, beq_self_eq_true, Nat.add_eq_left, Nat.left_eq_add, Nat.add_left_cancel_iff, List.replicate_zero, List.drop_nil, List.getElem?_cons_zero, List.getElem?_cons_succ, List.set_cons_zero, List.set_cons_succ, Option.map_some, Option.map_none, Option.isNone_none, Option.isNone_some, Option.isSome_none, Option.isSome_some, sh_2, ok_2, zo_2, za_2, ce_2, ro_2, sh_3, ok_3, zo_3, za_3, ce_3, ro_3, sh_4, ok_4, zo_4, za_4, ce_4, ro_4, sh_9, ok_9, zo_9, za_9, ce_9, ro_9, sh_23, ok_23, zo_23, za_23, ce_23, ro_23, sh_25, ok_25, zo_25, za_25, ce_25, ro_25, fl_25, po_25, sh_27, ok_27, zo_27, za_27, ce_27, ro_27, sh_28, ok_28, zo_28, za_28, ce_28, ro_28, sh_30, ok_30, zo_30, za_30, ce_30, ro_30, fl_30, po_30, sh_31, ok_31, zo_31, za_31, ce_31, ro_31, po_31, sh_33, ok_33, zo_33, za_33, ce_33, ro_33, fl_33, po_33, sh_34, ok_34, zo_34, za_34, ce_34, ro_34, sh_39, ok_39, zo_39, za_39, ce_39, ro_39, fl_39, po_39, sh_50, ok_50, zo_50, za_50, ce_50, ro_50, fl_50, po_50, sh_69, ok_69, zo_69, za_69, ce_69, ro_69, sh_71, ok_71, zo_71, za_71, ce_71, ro_71, fl_71, po_71, sh_74, ok_74, zo_74, za_74, ce_74, ro_74, fl_74, po_74, bodyOf, Option.getD_some, Go.Proofs.Try.f72, fin_tmp, fin_cell, fk_tmp, fk_nil, fk_ct, ck_rd, ck_some, ck_ret, cell_rd, cell_some, cell_ret, res_int, res_bool, take_self, take_app, lq_normal, lq_exit, lq_ret, hfu]
    | refine bg_yes (fun hb => ?_) (fun hb => ?_)
    | refine bg_no (fun hb => ?_) (fun hb => ?_)
    | refine bo_mk (fun hb => ?_) (fun hb => ?_)
    | refine bp_mk (fun hb => ?_) (fun hb => ?_)
    | refine bd_yes (fun hb => ?_) (fun hb => ?_)
    | refine bd_no (fun hb => ?_) (fun hb => ?_)
    | refine bq_mk (fun hb => ?_) (fun hb => ?_)
    | refine rs_no ?_ ?_
    | refine rs_yes ?_ ?_
    | refine rh_yes ?_ ?_
    | refine ds_no ?_ ?_
    | refine ds_yes ?_ ?_
    | refine dw_mk ?_ ?_
    | refine rs_ite (fun hb => ?_) (fun hb => ?_)
    | refine rh_ite (fun hb => ?_) (fun hb => ?_)
    | refine ds_ite (fun hb => ?_) (fun hb => ?_)
    | refine rq_mk rfl (fun b hb => ?_)
    | refine k_det hf ?_
    | refine k_mtn (c_tellS 1 [] (by simp) hr hw).n fun h1 w1 p1 => ?_
    | refine k_mtn (args := []) (c_put w1 hr1.pi hr1.rT (by have := hr1.il; omega) hr1.now hr1.ls) fun h2 w2 p2 => ?_)
    exact ⟨w2.seq p1 p2, p1.trans p2⟩

end Go.Abs
