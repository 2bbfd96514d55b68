/- Wl: a part of the proofs about the tuple space and its bytes. -/
import Derived.Test.YtilfbkhbjkjicaaAbs28
set_option linter.all false
namespace Go.Abs
open Go
section
variable {P : Program}
theorem stLoad_ref (T T' : TypeId) (k : Nat) (p : List Nat) : qcd T (.ref k p T') = if T' = T then .rd k fun e => if yb5 e.st = true then (match getE e.es p with | some v => .ret v [] | none => .fail) else .fail else .fail := rfl
theorem stLoad_eref (T T' : TypeId) (v : AV) : qcd T (.eref T' v) = if T' = T then .ret v [] else .fail := rfl
theorem stIndexAddr_win (T : TypeId) (kd : IntKind) (n : Int) (k : Nat) (p : List Nat) (e : TypeId) (fr len lo : Nat) : ya3 P T (.win k p e fr len lo) (.int kd n) = if zab P T = .slice e ∧ okT P e = true then (if 0 ≤ n ∧ n < (len : Int) then .ret (.ref k (p ++ [fr + n.toNat]) e) [] else .fail) else .fail := rfl
theorem stIndexAddr_list (T : TypeId) (kd : IntKind) (n : Int) (e : TypeId) (es : List AV) : ya3 P T (.list e es) (.int kd n) = if zab P T = .slice e ∧ okT P e = true then (if 0 ≤ n ∧ n < (es.length : Int) then .ret (.eref e (es.getD n.toNat .junk)) [] else .fail) else .fail := rfl
theorem stIndexAddr_ref (T T' : TypeId) (kd : IntKind) (n : Int) (k : Nat) (p : List Nat) : ya3 P T (.ref k p T') (.int kd n) = if T' = T then (match zab P T with | .arr m e => if okT P e = true ∧ 0 ≤ n ∧ n < (m : Int) then .ret (.ref k (p ++ [n.toNat]) e) [] else .fail | _ => .fail) else .fail := rfl
theorem stIndexAddr_eref (T T' T'' : TypeId) (kd : IntKind) (n : Int) (vs : List AV) : ya3 P T (.eref T' (.agg T'' vs)) (.int kd n) = if T' = T then (match zab P T with | .arr m e => if okT P e = true ∧ 0 ≤ n ∧ n < (m : Int) then .ret (.eref e (vs.getD n.toNat .junk)) [] else .fail | _ => .fail) else .fail := rfl
theorem stLen_win (T : TypeId) (k : Nat) (p : List Nat) (e : TypeId) (fr n lo : Nat) : zcp P T (.win k p e fr n lo) = if qay (zab P T) = true then .ret (.int .i64 n) [] else .fail := rfl
theorem ybt (T e : TypeId) (es : List AV) : zcp P T (.list e es) = if qay (zab P T) = true then .ret (.int .i64 es.length) [] else .fail := rfl
theorem stLen_nils (T : TypeId) : zcp P T .nils = if qay (zab P T) = true then .ret (.int .i64 0) [] else .fail := rfl
theorem stLen_str (T : TypeId) (s : ByteArray) : zcp P T (.str s) = if zab P T = .str then .ret (.int .i64 s.size) [] else .fail := rfl
theorem stAppendTo_nils (e : TypeId) (ys : List AV) (s : Nat) : zap e ys s .nils = .ret (.win s [] e 0 ys.length ys.length) [(s, ⟨e, ys, .own⟩)] := rfl
theorem stAppendTo_win (e : TypeId) (ys : List AV) (s k : Nat) (p : List Nat) (e' : TypeId) (fr n lo : Nat) : zap e ys s (.win k p e' fr n lo) = if e' = e ∧ yco p = true ∧ fr = 0 then .rd k fun en => if en.st = .own ∧ n ≤ en.es.length then
      (if n + ys.length ≤ lo then .ret (.win k [] e 0 (n + ys.length) lo) [(k, { en with es := en.es.take n ++ ys ++ en.es.drop (n + ys.length) })]
       else .ret (.win s [] e 0 (n + ys.length) (n + ys.length)) [(k, { en with es := [], st := .dead }), (s, ⟨e, en.es.take n ++ ys, .own⟩)])
      else .fail else .fail := rfl
theorem stConv_int (S T : TypeId) (kd : IntKind) (n : Int) : qbk P S T (.int kd n) = match zab P T with | .int k => if zab P S ≠ .other then .ret (.int k (k.wrap n)) [] else .fail | _ => .fail := rfl
theorem stConv_str (S T : TypeId) (b : ByteArray) : qbk P S T (.str b) = match zab P T with
    | .slice e => if zab P e = .int .u8 ∧ zab P S = .str then .ret (.list e (u8s b)) [] else .fail
    | .str => if zab P S = .str then .ret (.str b) [] else .fail
    | _ => .fail := rfl
theorem stConv_list (S T e : TypeId) (es : List AV) : qbk P S T (.list e es) = if zab P S = .slice e ∧ zab P e = .int .u8 ∧ zab P T = .str then .ret (.str (strA es)) [] else .fail := rfl
theorem stConv_nils (S T : TypeId) : qbk P S T .nils = match zab P S with
    | .slice e => if zab P e = .int .u8 ∧ zab P T = .str then .ret (.str ByteArray.empty) [] else .fail
    | _ => .fail := rfl
theorem stConv_win (S T : TypeId) (k : Nat) (p : List Nat) (e : TypeId) (fr n lo : Nat) : qbk P S T (.win k p e fr n lo) = if zab P S = .slice e ∧ zab P e = .int .u8 ∧ zab P T = .str then .rd k fun en => if yb5 en.st = true then (match qaq en.es p fr n with | some ys => .ret (.str (strA ys)) [] | none => .fail) else .fail else if S = T ∧ zab P S = .slice e ∧ zab P e = .int .u8 ∧ n ≠ 0 then .rd k fun en => if (en.st == .own) = true then .ret (.win k p e fr n lo) [] else .fail else .fail := rfl
theorem stCopyTo_nils (e : TypeId) (ys : List AV) : yb9 e ys .nils = .ret (.int .i64 0) [] := rfl
theorem stCopyTo_win (e : TypeId) (ys : List AV) (k : Nat) (p : List Nat) (e' : TypeId) (fr n lo : Nat) : yb9 e ys (.win k p e' fr n lo) = if e' = e then .rd k fun en => if en.st = .own then
      (match zdf en.es p fr (ys.take n) with
       | some es => .ret (.int .i64 (min ys.length n : Nat)) [(k, { en with es := es })]
       | none => .fail) else .fail else .fail := rfl
theorem isRef_ref (k : Nat) (p : List Nat) (T : TypeId) : isRefA (.ref k p T) = true := rfl
theorem isRef_eref (T : TypeId) (v : AV) : isRefA (.eref T v) = true := rfl
theorem lenAV_win (k : Nat) (p : List Nat) (T : TypeId) (fr n lo : Nat) : lenAV (.win k p T fr n lo) = n := rfl
theorem lenAV_list (T : TypeId) (es : List AV) : lenAV (.list T es) = es.length := rfl
theorem lenAV_str (s : ByteArray) : lenAV (.str s) = s.size := rfl
theorem lenAV_nils : lenAV .nils = 0 := rfl
end
attribute [push_cast] zaz List.map_cons List.map_nil List.length_cons List.length_nil List.take_succ_cons List.take_zero List.toList_toArray r_end r_seq r_block r_region qa8 r_cond r_cond_b r_bo_t r_bo_f r_code_ret r_code_ex r_blk_ret r_blk r_blk_ex r_cut r_op r_nil r_skip r_label r_exit r_ret r_guard r_g_undef r_g_b r_bg_tt r_bg_ff r_bg_tf r_bg_ft o_assign o_move o_pick rp_b bp_t bp_f bp_b o_bin rb_f rb_eql rb_neq isNil_int isNil_tmp isNil_bool isNil_str isNil_slice isNil_ptr o_load o_store o_nilCheck o_unOp o_convert o_convertI o_convertS o_copy o_extract o_index o_indexAddr o_build o_fieldAddr o_field o_alloc o_box rm rh_new rh_ret rh_rd ydh o_buildSlice o_makeSlice o_append o_len o_cap o_clear o_min o_max o_slice o_makeFunc rw_t o_call rf_fn ra_t d_nil d_op d_guard dg_undef dg_b bd_tt bd_ff bd_tf bd_ft dx dw_t dv tcOf_wr tcOf_all ap_wr ap_all clear_nil clear_cons clr1_some ds_ret ds_rd dd_some dm_t do_move do_assign do_pick dp_b bq_t bq_f bq_b do_load do_store do_nilCheck do_unOp do_convert do_convertI do_convertS do_copy do_extract do_index do_indexAddr do_build do_fieldAddr do_field do_bin do_slice do_len do_clear do_alloc do_box do_buildSlice do_makeSlice do_append do_call df_fn da_t mkO qa2 holeO apartB disjB memB isE Tc.isNone ev evs qb7 lk lkO_some ybf put rs_ret rs_rd rd_some yay gslot_0 gslot_succ ydj stLoad_ref stLoad_eref qdq ybe qcs stIndexAddr_win stIndexAddr_list stIndexAddr_ref stIndexAddr_eref ycs intBin stBin stUn stConv_int stConv_str stConv_list stConv_nils stConv_win ydr stCopy stCopyTo_nils stCopyTo_win zdf stLen_win ybt stLen_nils stLen_str stClear stMin zct qbn zbt ybn zdr stAppendTo_nils stAppendTo_win stAppend qa3 stAppendI qdg stCap ybv yb5 getE qbg setE setP qca lenAV_win lenAV_list lenAV_str lenAV_nils bnd pIn yco qaq nilEq qay isPtr zc6 ty_bool ty_str ty_agg ty_list ty_win ty_ref ty_eref ty_nilptr ty_fn ty_nilfn yci pl_int pl_bool pl_str pl_agg pl_list pl_win pl_ref pl_eref pl_nilptr pl_fn pl_nilfn pl_nils isY_nil isY_int isY_bool isY_str isY_agg isY_list isY_win isY_ref isY_eref isY_nilptr isY_fn isY_nilfn isY_nils qbu wk_bool wk_str qcb wk_win wk_ref wk_eref wk_nilptr wk_fn wk_nilfn qbr za1 yb2 ya6 zcr List.zipWith_cons_cons List.zipWith_nil_left argsR isRef_ref isRef_eref wks List.all_cons List.all_nil List.nil_append List.append_nil List.cons_append AEx.fin zar qa9 set_at0 set_at len_app List.append_assoc Nat.add_assoc ne_eq not_false_eq_true not_true_eq_false if_true if_false Nat.add_zero Nat.zero_add or_true true_or or_false false_or and_true true_and and_false false_and and_self Bool.and_true Bool.true_and Bool.and_false Bool.false_and Bool.not_true Bool.not_false Bool.or_true Bool.true_or Bool.or_false Bool.false_or Bool.false_eq_true Bool.true_eq_false decide_true decide_false decide_eq_true_eq beq_self_eq_true Nat.add_eq_left Nat.left_eq_add Nat.add_left_cancel_iff List.replicate_zero List.drop_nil List.getElem?_cons_zero List.getElem?_cons_succ List.set_cons_zero List.set_cons_succ Option.map_some Option.map_none Option.isNone_none Option.isNone_some Option.isSome_none Option.isSome_some Option.getD_some fin_tmp fin_cell fk_tmp fk_nil fk_ct ck_rd ck_some ck_ret cell_rd cell_some cell_ret res_int res_bool take_self take_app lq_normal lq_exit lq_ret
class Spl (G : Prop) (A B : outParam Prop) : Prop where
  f : A → B → G
class Sp2 (G : Prop) (A B : outParam Prop) : Prop where
  f : A → B → G
section
variable {P : Program} {D : DC} {s s1 s2 : List Ctl} {env e1 e2 : Env} {h : List Entry} {Q : yap} {d : Option Tmp} {n : Nat}
instance {c : Prop} {_ : Decidable c} {a b : Stp} {acc : List Nat} : Spl (Ds P (if c then a else b) acc D s env h Q) (c → Ds P a acc D s env h Q) (¬ c → Ds P b acc D s env h Q) := ⟨ds_ite⟩
instance {c : Prop} {_ : Decidable c} {a b : Stp} : Spl (Rh P (if c then a else b) d s env h Q) (c → Rh P a d s env h Q) (¬ c → Rh P b d s env h Q) := ⟨rh_ite⟩
instance {c : Prop} {_ : Decidable c} {a b : Stp} : Spl (Rs P (if c then a else b) d s env h Q) (c → Rs P a d s env h Q) (¬ c → Rs P b d s env h Q) := ⟨rs_ite⟩
instance {ok : Bool} {v : AV} {eff : Eff} {tc : Tc} : Sp2 (Dw P ok v eff tc D s env h Q) (ok = true) (Rn P (.dops D.all D.base D.r D.Us D.m (D.T ++ [tc]) :: s) .normal (ybf env D.d v) (eff.ap h) Q) := ⟨dw_mk⟩
instance {c : Prop} {_ : Decidable c} {st : Stp} {acc : List Nat} : Sp2 (Ds P (if c then st else .fail) acc D s env h Q) c (Ds P st acc D s env h Q) := ⟨ds_yes⟩
instance {c : Prop} {_ : Decidable c} {st : Stp} {acc : List Nat} : Sp2 (Ds P (if c then .fail else st) acc D s env h Q) (¬ c) (Ds P st acc D s env h Q) := ⟨ds_no⟩
instance {c : Prop} {_ : Decidable c} {st : Stp} : Sp2 (Rh P (if c then st else .fail) d s env h Q) c (Rh P st d s env h Q) := ⟨rh_yes⟩
instance {c : Prop} {_ : Decidable c} {st : Stp} : Sp2 (Rs P (if c then st else .fail) d s env h Q) c (Rs P st d s env h Q) := ⟨rs_yes⟩
instance {c : Prop} {_ : Decidable c} {st : Stp} : Sp2 (Rs P (if c then .fail else st) d s env h Q) (¬ c) (Rs P st d s env h Q) := ⟨rs_no⟩
instance {b : Bool} {x y : AV} : Spl (Bq P b x y D s env h Q) (b = true → Dv P x (.wr []) [] D s env h Q) (b = false → Dv P y (.wr []) [] D s env h Q) := ⟨bq_mk⟩
instance {b : Bool} {o : Op} {t : Tmp} : Spl (Bd P b false o n t D s env h Q) (b = true → Dx P D s (put env t (.bool true)) h Q) (b = false → Do P o n D s (put env t (.bool false)) h Q) := ⟨bd_no⟩
instance {b : Bool} {o : Op} {t : Tmp} : Spl (Bd P b true o n t D s env h Q) (b = true → Do P o n D s (put env t (.bool true)) h Q) (b = false → Dx P D s (put env t (.bool false)) h Q) := ⟨bd_yes⟩
instance {b : Bool} {x y : AV} : Spl (Bp P b x y d s env h Q) (b = true → Rn P s .normal (ybf env d x) h Q) (b = false → Rn P s .normal (ybf env d y) h Q) := ⟨bp_mk⟩
instance {b : Bool} : Spl (Bo P b s1 e1 s2 e2 h Q) (b = true → Rn P s1 .normal e1 h Q) (b = false → Rn P s2 .normal e2 h Q) := ⟨bo_mk⟩
instance {b : Bool} {o : Op} {t : Tmp} : Spl (Bg P b false o d t s env h Q) (b = true → Rn P s .normal (ybf (put env t (.bool true)) d (.tup [])) h Q) (b = false → Ro P o d s (put env t (.bool false)) h Q) := ⟨bg_no⟩
instance {b : Bool} {o : Op} {t : Tmp} : Spl (Bg P b true o d t s env h Q) (b = true → Ro P o d s (put env t (.bool true)) h Q) (b = false → Rn P s .normal (ybf (put env t (.bool false)) d (.tup [])) h Q) := ⟨bg_yes⟩
end
end Go.Abs
