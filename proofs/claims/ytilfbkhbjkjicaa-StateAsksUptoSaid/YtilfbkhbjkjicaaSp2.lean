/- Sp2: a part of the proofs about the tuple space and its bytes. -/
import Derived.Test.YtilfbkhbjkjicaaFa1
set_option linter.all false
set_option maxRecDepth 100000
set_option maxHeartbeats 0
namespace Go.Abs
open Go
open Go.Proofs.Try (prog)
structure Fld where
  K : Int
  N : Int
  S : ByteArray
def eF (x : Fld) : AV := .agg 160 [.int .i64 x.K, .int .i64 x.N, .str x.S]
def eFs (l : List Fld) : AV := .list 160 (l.map eF)
theorem eq_Field : eqT prog 160 = true := by kernel_rfl
theorem eF_wk (x : Fld) : wk prog 6 160 (eF x) = eF x := by simp [eF, yb2, ya6, qbu, wk_str, sh_160, fl_160, sh_3, sh_2, sh_9]
theorem eF_ty (x : Fld) : tyB prog (eF x) 160 = true := by simp [eF, tyB]
theorem eF_pl (x : Fld) : zah (eF x) = true := rfl
theorem eF_dat (x : Fld) : dat (eF x) = true := rfl
theorem zcz (l : List Fld) : dat (.list 160 (l.map eF)) = true := by rw [dat_list]; exact yaw eF eF_dat l
theorem zax (l : List Fld) : wk prog 6 24 (eFs l) = eFs l := qcb ..
theorem yav (l : List Fld) : tyB prog (eFs l) 24 = true := by simp [eFs, tyB, zc5]
theorem yax (l : List Fld) : zah (eFs l) = true := rfl
def Fld.plain (x : Fld) : Bool := if x.K = 1 then x.S == ⟨#[]⟩ else if x.K = 2 then decide (x.N = 0) && decide (x.S.size ≤ 40) else false
theorem c_plain (x : Fld) : Fn prog 158 [eF x] (.bool x.plain) := by
  refine run_158 rfl fun h => ?_
  simp only [eF]
  repeat' (first
    | simp (implicitDefEqProofs := false) only [push_cast, reduceIte, reduceCtorEq, Nat.reduceAdd, Nat.reduceSub, Nat.reduceEqDiff, Nat.reduceLT, Nat.reduceLeDiff, Nat.reduceBEq, Nat.reduceMul, Int.reduceLT, Int.reduceLE, Int.reduceEq, Int.reduceToNat, Int.reduceMul, Int.reduceNeg, Go.Proofs.Try.f158]
    | refine Sp2.f ?_ ?_
    | refine Spl.f ?_ ?_ <;> intro hb
    | refine yac rfl (fun b hb => ?_))
  all_goals (simp_all [Fld.plain]; try omega)
def Fld.asked (x : Fld) : Bool := if x.K = 3 ∨ x.K = 4 ∨ x.K = 5 then decide (x.N = 0) && x.S == ⟨#[]⟩ else x.plain
theorem c_asked (x : Fld) : Fn prog 149 [eF x] (.bool x.asked) := by
  refine run_149 rfl fun h => ?_
  simp only [eF]
  repeat' (first
    | simp (implicitDefEqProofs := false) only [push_cast, reduceIte, reduceCtorEq, Nat.reduceAdd, Nat.reduceSub, Nat.reduceEqDiff, Nat.reduceLT, Nat.reduceLeDiff, Nat.reduceBEq, Nat.reduceMul, Int.reduceLT, Int.reduceLE, Int.reduceEq, Int.reduceToNat, Int.reduceMul, Int.reduceNeg, Go.Proofs.Try.f149]
    | refine Sp2.f ?_ ?_
    | refine Spl.f ?_ ?_ <;> intro hb
    | refine yac rfl (fun b hb => ?_)
    | refine zay (c_plain x) ?_)
  all_goals (simp_all [Fld.asked]; try omega)
def Fld.same (x y : Fld) : Bool := x.K == y.K && (x.N == y.N && x.S == y.S)
def Fld.fits (x y : Fld) : Bool := if x.K = 3 then y.K == 1 else if x.K = 4 then y.K == 2 else if x.K = 5 then true else x.same y
theorem zdw {α : Type} (e : α → AV) (l : List α) {g : FuncId} {caps : List AV} (p : α → Bool) (hl : l.length ≤ 4294967296) (hty : ∀ x, tyB prog (e x) 160 = true) (hpl : ∀ x, zah (e x) = true) (hwk : ∀ x, wk prog 6 160 (e x) = e x)
    (hp : ∀ x ∈ l, Fn prog g (e x :: caps) (.bool (p x))) (hy : isY caps = false := by rfl) : Fn prog 175 [.list 160 (l.map e), .fn g caps] (.int .i64 (fidx p l)) := by
  refine run_175 rfl fun h => ?_
  repeat' (first
    | simp (implicitDefEqProofs := false) only [push_cast, reduceIte, reduceCtorEq, Nat.reduceAdd, Nat.reduceSub, Nat.reduceEqDiff, Nat.reduceLT, Nat.reduceLeDiff, Nat.reduceBEq, Nat.reduceMul, Int.reduceLT, Int.reduceLE, Int.reduceEq, Int.reduceToNat, Int.reduceMul, Int.reduceNeg, Go.Proofs.Try.f175, hy, List.length_map]
    | refine Sp2.f ?_ ?_
    | refine Spl.f ?_ ?_ <;> intro hb
    | refine yac rfl (fun b hb => ?_))
  refine qax (fun i a => [(0, .list 160 (l.map e)), (1, .fn g caps), (4, .int .i64 0), (5, a 5), (7, .int .i64 l.length), (8, .int .i64 i), (9, a 9), (16, a 16)]) (fun _ _ => h) (fun i => i ≤ l.length ∧ ∀ j x, j < i → l[j]? = some x → p x = false) l.length (za3 rfl ⟨[], rfl⟩ ⟨Nat.zero_le _, fun j x hj => by omega⟩) ?_
  rintro i a g' ⟨hi, hinv⟩
  refine ⟨hi, ?_⟩
  by_cases hlt : i < l.length
  · have hx : l[i]? = some l[i] := List.getElem?_eq_getElem hlt
    repeat' (first
    | simp (implicitDefEqProofs := false) only [push_cast, reduceIte, reduceCtorEq, Nat.reduceAdd, Nat.reduceSub, Nat.reduceEqDiff, Nat.reduceLT, Nat.reduceLeDiff, Nat.reduceBEq, Nat.reduceMul, Int.reduceLT, Int.reduceLE, Int.reduceEq, Int.reduceToNat, Int.reduceMul, Int.reduceNeg, Go.Proofs.Try.f175, hy, List.length_map, zau hlt, yar hlt, zal e hx, Int.toNat_natCast, hty, hpl, hwk, qae (show i < 9223372036854775807 by omega)]
    | refine Sp2.f ?_ ?_
    | refine Spl.f ?_ ?_ <;> intro hb
    | refine yac rfl (fun b hb => ?_)
    | refine zay (hp _ (List.getElem_mem hlt)) ?_
    | refine za3 ?_ ⟨[], rfl⟩ ?_)
    · rw [fidx_some hx ‹_› hinv]
    · exact ⟨hlt, none_before hx ‹_› hinv⟩
  · repeat' (first
    | simp (implicitDefEqProofs := false) only [push_cast, reduceIte, reduceCtorEq, Nat.reduceAdd, Nat.reduceSub, Nat.reduceEqDiff, Nat.reduceLT, Nat.reduceLeDiff, Nat.reduceBEq, Nat.reduceMul, Int.reduceLT, Int.reduceLE, Int.reduceEq, Int.reduceToNat, Int.reduceMul, Int.reduceNeg, Go.Proofs.Try.f175, hy, List.length_map, ya5 hlt]
    | refine Sp2.f ?_ ?_
    | refine Spl.f ?_ ?_ <;> intro hb
    | refine yac rfl (fun b hb => ?_))
    rw [fidx_none fun j y hj hy => hinv j y (by omega) hy]
theorem yc5 {α : Type} (e : α → AV) (l : List α) {g : FuncId} {caps : List AV} (p : α → Bool) (hl : l.length ≤ 4294967296) (hty : ∀ x, tyB prog (e x) 160 = true) (hpl : ∀ x, zah (e x) = true) (hwk : ∀ x, wk prog 6 160 (e x) = e x)
    (hp : ∀ x ∈ l, Fn prog g (e x :: caps) (.bool (p x))) (hy : isY caps = false := by rfl) : Fn prog 165 [.list 160 (l.map e), .fn g caps] (.bool (l.any p)) := by
  refine run_165 rfl fun h => ?_
  repeat' (first
    | simp (implicitDefEqProofs := false) only [push_cast, reduceIte, reduceCtorEq, Nat.reduceAdd, Nat.reduceSub, Nat.reduceEqDiff, Nat.reduceLT, Nat.reduceLeDiff, Nat.reduceBEq, Nat.reduceMul, Int.reduceLT, Int.reduceLE, Int.reduceEq, Int.reduceToNat, Int.reduceMul, Int.reduceNeg, Go.Proofs.Try.f165, hy, fidx_lt]
    | refine Sp2.f ?_ ?_
    | refine Spl.f ?_ ?_ <;> intro hb
    | refine yac rfl (fun b hb => ?_)
    | refine zay (zdw e l p hl hty hpl hwk hp hy) ?_)
theorem c_all1 (x : Fld) {g : FuncId} {caps : List AV} {b : Bool} (hp : Fn prog g (eF x :: caps) (.bool b)) (hy : isY caps = false := by rfl) : Fn prog 166 [eF x, .eref 180 (.fn g caps)] (.bool !b) := by
  refine run_166 rfl fun h => ?_
  repeat' (first
    | simp (implicitDefEqProofs := false) only [push_cast, reduceIte, reduceCtorEq, Nat.reduceAdd, Nat.reduceSub, Nat.reduceEqDiff, Nat.reduceLT, Nat.reduceLeDiff, Nat.reduceBEq, Nat.reduceMul, Int.reduceLT, Int.reduceLE, Int.reduceEq, Int.reduceToNat, Int.reduceMul, Int.reduceNeg, Go.Proofs.Try.f166, hy, eF_ty, eF_pl, eF_wk]
    | refine Sp2.f ?_ ?_
    | refine Spl.f ?_ ?_ <;> intro hb
    | refine yac rfl (fun b hb => ?_)
    | refine zay hp ?_)
theorem c_all (l : List Fld) {g : FuncId} {caps : List AV} (p : Fld → Bool) (hl : l.length ≤ 4294967296) (hd : qc8 caps = true) (hp : ∀ x, Fn prog g (eF x :: caps) (.bool (p x))) :
    Fn prog 148 [eFs l, .fn g caps] (.bool (decide (1 ≤ l.length) && decide (l.length ≤ 6) && l.all p)) := by
  refine run_148 rfl fun h => ?_
  have hy := datL_isY hd
  repeat' (first
    | simp (implicitDefEqProofs := false) only [push_cast, reduceIte, reduceCtorEq, Nat.reduceAdd, Nat.reduceSub, Nat.reduceEqDiff, Nat.reduceLT, Nat.reduceLeDiff, Nat.reduceBEq, Nat.reduceMul, Int.reduceLT, Int.reduceLE, Int.reduceEq, Int.reduceToNat, Int.reduceMul, Int.reduceNeg, Go.Proofs.Try.f148, hy, yav, yax, zax, eFs, List.length_map]
    | refine Sp2.f ?_ ?_
    | refine Spl.f ?_ ?_ <;> intro hb
    | refine yac rfl (fun b hb => ?_)
    | refine k_borrow wfp (args' := [.list 160 (l.map eF), .fn 166 [.eref 180 (.fn g caps)]]) ?_ (yc5 eF l (fun x => !p x) hl eF_ty eF_pl eF_wk fun x _ => c_all1 x (hp x) hy) ?_ rfl ?_)
  · simp only [List.map_cons, List.map_nil, dat_bw _ 8 (zcz l), bw_fnE, bw_refE, zar, List.getElem?_cons_zero, bwRef_own, getE, qbg, bwRefO_some, yde caps _ hd]
  · simp only [List.all_cons, List.all_nil, zan, yas, zbj _ (yaw eF eF_dat l), zbj caps hd, Bool.and_self]
  all_goals simp only [decide_eq_true_eq, decide_eq_false_iff_not] at *
  · rw [decide_eq_true (by omega), decide_eq_true (by omega), List.all_eq_not_any_not]; simp
  · rw [decide_eq_false (p := l.length ≤ 6) (by omega)]; simp
  · rw [decide_eq_false (p := 1 ≤ l.length) (by omega)]; simp
def mayT (l : List Fld) : Bool := decide (1 ≤ l.length) && decide (l.length ≤ 6) && l.all Fld.plain
def qcf (l : List Fld) : Bool := decide (1 ≤ l.length) && decide (l.length ≤ 6) && l.all Fld.asked
theorem c_tupleMay (l : List Fld) (hl : l.length ≤ 4294967296) : Fn prog 138 [eFs l] (.bool (mayT l)) := by
  refine run_138 rfl fun h => ?_
  repeat' (first
    | simp (implicitDefEqProofs := false) only [push_cast, reduceIte, reduceCtorEq, Nat.reduceAdd, Nat.reduceSub, Nat.reduceEqDiff, Nat.reduceLT, Nat.reduceLeDiff, Nat.reduceBEq, Nat.reduceMul, Int.reduceLT, Int.reduceLE, Int.reduceEq, Int.reduceToNat, Int.reduceMul, Int.reduceNeg, Go.Proofs.Try.f138, yav, yax, zax]
    | refine Sp2.f ?_ ?_
    | refine Spl.f ?_ ?_ <;> intro hb
    | refine yac rfl (fun b hb => ?_)
    | refine zay (c_all l Fld.plain hl qcl fun x => c_plain x) ?_)
  all_goals rfl
theorem zb0 (l : List Fld) (hl : l.length ≤ 4294967296) : Fn prog 117 [eFs l] (.bool (qcf l)) := by
  refine run_117 rfl fun h => ?_
  repeat' (first
    | simp (implicitDefEqProofs := false) only [push_cast, reduceIte, reduceCtorEq, Nat.reduceAdd, Nat.reduceSub, Nat.reduceEqDiff, Nat.reduceLT, Nat.reduceLeDiff, Nat.reduceBEq, Nat.reduceMul, Int.reduceLT, Int.reduceLE, Int.reduceEq, Int.reduceToNat, Int.reduceMul, Int.reduceNeg, Go.Proofs.Try.f117, yav, yax, zax]
    | refine Sp2.f ?_ ?_
    | refine Spl.f ?_ ?_ <;> intro hb
    | refine yac rfl (fun b hb => ?_)
    | refine zay (c_all l Fld.asked hl qcl fun x => c_asked x) ?_)
  all_goals rfl
def sameT (l m : List Fld) : Bool := qb0 Fld.same l m
def qcw (l m : List Fld) : Bool := qcf l && mayT m && qb0 Fld.fits l m
end Go.Abs
set_option linter.all false
set_option maxRecDepth 100000
set_option maxHeartbeats 0
namespace Go.Abs
open Go
open Go.Proofs.Try (prog)
structure Req where
  Client : Int
  Seq : Int
  Kind : Int
  P : List Fld
  T : List Fld
  Lease : Int
def eQ (x : Req) : AV := .agg 60 [.int .i64 x.Client, .int .i64 x.Seq, .int .i64 x.Kind, eFs x.P, eFs x.T, .int .i64 x.Lease]
theorem eFs_dat' (l : List Fld) : dat (eFs l) = true := zcz l
def opIn (k m : Int) : Bool := decide (1 ≤ k) && decide (k ≤ 8) && (bits .and .i64 (m.fdiv (2 ^ (min (IntKind.wrap .u64 k).toNat IntKind.i64.bits))) 1 == 1)
def readsK (k : Int) : Bool := opIn k 252
def writesK (k : Int) : Bool := opIn k 234
def putsK (k : Int) : Bool := opIn k 194
structure Req.Small (x : Req) : Prop where
  P : x.P.length ≤ 4294967296
  T : x.T.length ≤ 4294967296
def mayQ (x : Req) : Bool := decide (0 ≤ x.Client ∧ x.Client < 4 ∧ 1 ≤ x.Seq ∧ x.Seq ≤ 1073741824 ∧ 1 ≤ x.Kind ∧ x.Kind ≤ 8) &&
  ((if putsK x.Kind = true then mayT x.T && decide (0 ≤ x.Lease ∧ x.Lease ≤ 1099511627776) else decide (x.T = []) && decide (x.Lease = 0)) &&
   (if readsK x.Kind = true then qcf x.P else decide (x.P = [])))
theorem len_nil {α : Type} (l : List α) : ((l.length : Int) == 0) = decide (l = []) := by cases l <;> simp; omega
end Go.Abs
set_option linter.all false
set_option maxRecDepth 100000
set_option maxHeartbeats 0
namespace Go.Abs
open Go
open Go.Proofs.Try (prog)
end Go.Abs
set_option linter.all false
set_option maxRecDepth 100000
set_option maxHeartbeats 0
namespace Go.Abs
open Go
open Go.Proofs.Try (prog)
structure Itm where
  Owner : Int
  Until : Int
  T : List Fld
structure Wtr where
  Client : Int
  Seq : Int
  Take : Bool
  P : List Fld
structure Rpl where
  Client : Int
  Seq : Int
  Kind : Int
  T : List Fld
  Late : Bool
structure Spc where
  Now : Int
  Items : List Itm
  Waiters : List Wtr
  Read : Int
  Write : Int
  Last : List Rpl
def eI (x : Itm) : AV := .agg 87 [.int .i64 x.Owner, .int .i64 x.Until, eFs x.T]
def eIs (l : List Itm) : AV := .list 87 (l.map eI)
def eW (x : Wtr) : AV := .agg 89 [.int .i64 x.Client, .int .i64 x.Seq, .bool x.Take, eFs x.P]
def eWs (l : List Wtr) : AV := .list 89 (l.map eW)
def eR (x : Rpl) : AV := .agg 26 [.int .i64 x.Client, .int .i64 x.Seq, .int .i64 x.Kind, eFs x.T, .bool x.Late]
def eL (l : List Rpl) : AV := .agg 27 (l.map eR)
def eS (x : Spc) : AV := .agg 29 [.int .i64 x.Now, eIs x.Items, eWs x.Waiters, .int .i64 x.Read, .int .i64 x.Write, eL x.Last]
theorem eI_wk (x : Itm) : wk prog 6 87 (eI x) = eI x := by simp [eI, eFs, yb2, ya6, qbu, qcb, sh_87, fl_87]
theorem eI_ty (x : Itm) : tyB prog (eI x) 87 = true := by simp [eI, tyB]
theorem eI_pl (x : Itm) : zah (eI x) = true := rfl
theorem eI_dat (x : Itm) : dat (eI x) = true := by simp [eI, qbt, yb7, qcl, dat_int, eFs_dat']
theorem eIs_dat (l : List Itm) : dat (eIs l) = true := by rw [eIs, dat_list]; exact yaw eI eI_dat l
theorem eW_wk (x : Wtr) : wk prog 6 89 (eW x) = eW x := by simp [eW, eFs, yb2, ya6, qbu, wk_bool, qcb, sh_89, fl_89]
theorem eW_ty (x : Wtr) : tyB prog (eW x) 89 = true := by simp [eW, tyB]
theorem eW_pl (x : Wtr) : zah (eW x) = true := rfl
theorem eW_dat (x : Wtr) : dat (eW x) = true := by simp [eW, qbt, yb7, qcl, dat_int, dat_bool, eFs_dat']
theorem eWs_dat (l : List Wtr) : dat (eWs l) = true := by rw [eWs, dat_list]; exact yaw eW eW_dat l
theorem eR_wk (n : Nat) (x : Rpl) : wk prog (n + 2) 26 (eR x) = eR x := by simp [eR, eFs, yb2, ya6, qbu, wk_bool, qcb, sh_26, fl_26]
theorem eR_ty (x : Rpl) : tyB prog (eR x) 26 = true := by simp [eR, tyB]
theorem eR_pl (x : Rpl) : zah (eR x) = true := rfl
theorem eR_dat (x : Rpl) : dat (eR x) = true := by simp [eR, qbt, yb7, qcl, dat_int, dat_bool, eFs_dat']
theorem eL_dat (l : List Rpl) : dat (eL l) = true := by rw [eL, qbt]; exact yaw eR eR_dat l
theorem eL_wk (n : Nat) (l : List Rpl) : wk prog (n + 3) 27 (eL l) = eL l := by
  have : (wk prog (n + 2) 26) ∘ eR = eR := by funext x; exact eR_wk n x
  simp [eL, yb2, zcr, sh_27, this]
theorem ycp (x : Spc) : wk prog 6 29 (eS x) = eS x := by
  have h := eL_wk 2 x.Last
  simp only [eS, eIs, eWs, yb2, ya6, qbu, qcb, sh_29, fl_29, List.zipWith_cons_cons, List.zipWith_nil_left, if_true]
  rw [h]
theorem qcp (x : Spc) : tyB prog (eS x) 29 = true := by simp [eS, tyB]
theorem zcq (x : Spc) : zah (eS x) = true := rfl
def zat (c : Int) : Bool := decide (0 ≤ c) && decide (c < 4)
theorem c_client (c : Int) : Fn prog 116 [.int .i64 c] (.bool (zat c)) := by
  refine run_116 rfl fun h => ?_
  repeat' (first
    | simp (implicitDefEqProofs := false) only [push_cast, reduceIte, reduceCtorEq, Nat.reduceAdd, Nat.reduceSub, Nat.reduceEqDiff, Nat.reduceLT, Nat.reduceLeDiff, Nat.reduceBEq, Nat.reduceMul, Int.reduceLT, Int.reduceLE, Int.reduceEq, Int.reduceToNat, Int.reduceMul, Int.reduceNeg, Go.Proofs.Try.f116]
    | refine Sp2.f ?_ ?_
    | refine Spl.f ?_ ?_ <;> intro hb
    | refine yac rfl (fun b hb => ?_))
  all_goals grind [zat]
def qdo (x : Itm) (now : Int) : Bool := zat x.Owner && (decide (x.Until = 0) || (decide (now < x.Until) && decide (x.Until ≤ 2199023255552))) && mayT x.T
theorem c_mayItem (x : Itm) (now : Int) (hx : x.T.length ≤ 4294967296) : Fn prog 115 [eI x, .int .i64 now] (.bool (qdo x now)) := by
  refine run_115 rfl fun h => ?_
  repeat' (first
    | simp (implicitDefEqProofs := false) only [push_cast, reduceIte, reduceCtorEq, Nat.reduceAdd, Nat.reduceSub, Nat.reduceEqDiff, Nat.reduceLT, Nat.reduceLeDiff, Nat.reduceBEq, Nat.reduceMul, Int.reduceLT, Int.reduceLE, Int.reduceEq, Int.reduceToNat, Int.reduceMul, Int.reduceNeg, Go.Proofs.Try.f115, eI, eFs, List.length_map]
    | refine Sp2.f ?_ ?_
    | refine Spl.f ?_ ?_ <;> intro hb
    | refine yac rfl (fun b hb => ?_)
    | refine zay (c_client _) ?_
    | refine zay (c_tupleMay x.T hx) ?_)
  all_goals grind [qdo]
def zc7 (x : Rpl) (c : Int) : Bool := decide (x.Client = c) && decide (0 ≤ x.Seq ∧ x.Seq ≤ 1073741824) &&
  (if x.Seq = 0 then decide (x.Kind = 0) && decide (x.T = []) && !x.Late else if x.Kind = 2 then mayT x.T else decide (1 ≤ x.Kind ∧ x.Kind ≤ 6) && decide (x.T = []) && !x.Late)
theorem c_mayLast (x : Rpl) (c : Int) (hx : x.T.length ≤ 4294967296) : Fn prog 118 [eR x, .int .i64 c] (.bool (zc7 x c)) := by
  refine run_118 rfl fun h => ?_
  repeat' (first
    | simp (implicitDefEqProofs := false) only [push_cast, reduceIte, reduceCtorEq, Nat.reduceAdd, Nat.reduceSub, Nat.reduceEqDiff, Nat.reduceLT, Nat.reduceLeDiff, Nat.reduceBEq, Nat.reduceMul, Int.reduceLT, Int.reduceLE, Int.reduceEq, Int.reduceToNat, Int.reduceMul, Int.reduceNeg, Go.Proofs.Try.f118, eR, eFs, List.length_map, len_nil]
    | refine Sp2.f ?_ ?_
    | refine Spl.f ?_ ?_ <;> intro hb
    | refine yac rfl (fun b hb => ?_)
    | refine zay (c_tupleMay x.T hx) ?_)
  all_goals grind [zc7]
end Go.Abs
set_option linter.all false
set_option maxRecDepth 100000
set_option maxHeartbeats 0
namespace Go.Abs
open Go
open Go.Proofs.Try (prog)
def smallI (l : List Itm) : Prop := l.length ≤ 4294967296 ∧ ∀ x ∈ l, x.T.length ≤ 4294967296
def smallW (l : List Wtr) : Prop := l.length ≤ 4294967296 ∧ ∀ x ∈ l, x.P.length ≤ 4294967296
def smallR (l : List Rpl) : Prop := l.length ≤ 4294967296 ∧ ∀ x ∈ l, x.T.length ≤ 4294967296
structure Spc.Small (s : Spc) : Prop where
  items : smallI s.Items
  waiters : smallW s.Waiters
  last : smallR s.Last
  four : s.Last.length = 4
def ycl (s : Spc) (p : List Fld) : Int := fidx (fun x => qcw p x.T) s.Items
def rp0 (c : Int) : AV := .agg 26 [.int .i64 c, .int .i64 0, .int .i64 0, .nils, .bool false]
def lst (i : Nat) : List AV := [rp0 0, rp0 (if 1 < i then 1 else 0), rp0 (if 2 < i then 2 else 0), rp0 (if 3 < i then 3 else 0)]
def qc2 (r w : Int) : Spc := ⟨0, [], [], bits .and .i64 r 15, bits .and .i64 w 15, [⟨0, 0, 0, [], false⟩, ⟨1, 0, 0, [], false⟩, ⟨2, 0, 0, [], false⟩, ⟨3, 0, 0, [], false⟩]⟩
def spcN (r w : Int) (i : Nat) : AV := .agg 29 [.int .i64 0, .nils, .nils, .int .i64 (bits .and .i64 r 15), .int .i64 (bits .and .i64 w 15), .agg 27 (lst i)]
theorem c_New (r w : Int) : Fn prog 45 [.int .i64 r, .int .i64 w] (eS (qc2 r w)) := by
  refine fn_wk (r0 := spcN r w 4) 29 ?_ (by simp [spcN, ty_agg]) ?_
  · refine run_45 rfl fun h => ?_
    repeat' (first
    | simp (implicitDefEqProofs := false) only [push_cast, reduceIte, reduceCtorEq, Nat.reduceAdd, Nat.reduceSub, Nat.reduceEqDiff, Nat.reduceLT, Nat.reduceLeDiff, Nat.reduceBEq, Nat.reduceMul, Int.reduceLT, Int.reduceLE, Int.reduceEq, Int.reduceToNat, Int.reduceMul, Int.reduceNeg, Go.Proofs.Try.f45]
    | refine Sp2.f ?_ ?_
    | refine Spl.f ?_ ?_ <;> intro hb
    | refine yac rfl (fun b hb => ?_))
    refine qax (fun i a => [(0, .int .i64 r), (1, .int .i64 w), (4, .ref h.length [0] 29), (5, .ref (h.length + 1) [0] 29), (6, a 6), (12, .int .i64 i), (13, a 13)]) (fun i _ => h ++ [⟨29, [qai prog 29], .own⟩, ⟨29, [spcN r w i], .own⟩]) (fun i => i ≤ 4) 4 (za3 rfl ⟨[], ?_⟩ (by omega)) ?_
    · simp only [za_29]; rfl
    rintro i a g' hi
    refine ⟨hi, ?_⟩
    have h5 : i = 0 ∨ i = 1 ∨ i = 2 ∨ i = 3 ∨ i = 4 := by omega
    rcases h5 with rfl | rfl | rfl | rfl | rfl
    all_goals (repeat' (first
    | simp (implicitDefEqProofs := false) only [push_cast, reduceIte, reduceCtorEq, Nat.reduceAdd, Nat.reduceSub, Nat.reduceEqDiff, Nat.reduceLT, Nat.reduceLeDiff, Nat.reduceBEq, Nat.reduceMul, Int.reduceLT, Int.reduceLE, Int.reduceEq, Int.reduceToNat, Int.reduceMul, Int.reduceNeg, Go.Proofs.Try.f45, spcN, lst, rp0, (show ((0 : Nat) : Int) = 0 from rfl), (show ((1 : Nat) : Int) = 1 from rfl), (show ((2 : Nat) : Int) = 2 from rfl), (show ((3 : Nat) : Int) = 3 from rfl), (show ((4 : Nat) : Int) = 4 from rfl)]
    | refine Sp2.f ?_ ?_
    | refine Spl.f ?_ ?_ <;> intro hb
    | refine yac rfl (fun b hb => ?_)
    | refine za3 ?_ ⟨[], rfl⟩ ?_))
    all_goals first
      | rfl
      | omega
      | exact res_mk (by simp [qbt, yb7, qcl, dat_int, dat_bool, dat]) rfl
  · simp only [spcN, lst, rp0, eS, qc2, eIs, eWs, eL, eR, eFs, List.map_nil, List.map_cons, yb2, ya6, zcr, qbu, wk_bool, qbr, za1, sh_29, fl_29, sh_27, sh_26, fl_26, sh_22, sh_23, zc5, List.zipWith_cons_cons, List.zipWith_nil_left, if_true, Nat.reduceLT, reduceIte, if_false]
end Go.Abs
