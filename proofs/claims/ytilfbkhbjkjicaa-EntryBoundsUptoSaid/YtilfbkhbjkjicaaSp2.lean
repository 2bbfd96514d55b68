/- Sp2: a part of the proofs about the tuple space and its bytes. -/
import Derived.Test.YtilfbkhbjkjicaaFa1
set_option linter.all false
set_option maxRecDepth 100000
set_option maxHeartbeats 0
namespace Go.Abs
open Go
open Go.Proofs.Try (prog)
structure Fld where
  K : Int
  N : Int
  S : ByteArray
def eF (x : Fld) : AV := .agg 160 [.int .i64 x.K, .int .i64 x.N, .str x.S]
def eFs (l : List Fld) : AV := .list 160 (l.map eF)
theorem eq_Field : eqT prog 160 = true := by kernel_rfl
theorem eF_wk (x : Fld) : wk prog 6 160 (eF x) = eF x := by simp [eF, ybu, qaw, ybq, wk_str, sh_160, fl_160, sh_3, sh_2, sh_9]
theorem eF_ty (x : Fld) : tyB prog (eF x) 160 = true := by simp [eF, tyB]
theorem eF_pl (x : Fld) : qag (eF x) = true := rfl
theorem eF_dat (x : Fld) : dat (eF x) = true := rfl
theorem ydu (l : List Fld) : dat (.list 160 (l.map eF)) = true := by rw [zcm]; exact qal eF eF_dat l
theorem zb3 (l : List Fld) : wk prog 6 24 (eFs l) = eFs l := zbl ..
theorem yb3 (l : List Fld) : tyB prog (eFs l) 24 = true := by simp [eFs, tyB, sh_24]
theorem zce (l : List Fld) : qag (eFs l) = true := rfl
def Fld.plain (x : Fld) : Bool := if x.K = 1 then x.S == ⟨#[]⟩ else if x.K = 2 then decide (x.N = 0) && decide (x.S.size ≤ 40) else false
theorem c_plain (x : Fld) : Fn prog 158 [eF x] (.bool x.plain) := by
  refine run_158 rfl fun h => ?_
  simp only [eF]
  repeat' (first
    | simp (implicitDefEqProofs := false) only [push_cast, reduceIte, reduceCtorEq, Nat.reduceAdd, Nat.reduceSub, Nat.reduceEqDiff, Nat.reduceLT, Nat.reduceLeDiff, Nat.reduceBEq, Nat.reduceMul, Int.reduceLT, Int.reduceLE, Int.reduceEq, Int.reduceToNat, Int.reduceMul, Int.reduceNeg, Go.Proofs.Try.f158]
    | refine Sp2.f ?_ ?_
    | refine Spl.f ?_ ?_ <;> intro hb
    | refine yac rfl (fun b hb => ?_))
  all_goals (simp_all [Fld.plain]; try omega)
def Fld.asked (x : Fld) : Bool := if x.K = 3 ∨ x.K = 4 ∨ x.K = 5 then decide (x.N = 0) && x.S == ⟨#[]⟩ else x.plain
theorem c_asked (x : Fld) : Fn prog 149 [eF x] (.bool x.asked) := by
  refine run_149 rfl fun h => ?_
  simp only [eF]
  repeat' (first
    | simp (implicitDefEqProofs := false) only [push_cast, reduceIte, reduceCtorEq, Nat.reduceAdd, Nat.reduceSub, Nat.reduceEqDiff, Nat.reduceLT, Nat.reduceLeDiff, Nat.reduceBEq, Nat.reduceMul, Int.reduceLT, Int.reduceLE, Int.reduceEq, Int.reduceToNat, Int.reduceMul, Int.reduceNeg, Go.Proofs.Try.f149]
    | refine Sp2.f ?_ ?_
    | refine Spl.f ?_ ?_ <;> intro hb
    | refine yac rfl (fun b hb => ?_)
    | refine qaz (c_plain x) ?_)
  all_goals (simp_all [Fld.asked]; try omega)
def Fld.same (x y : Fld) : Bool := x.K == y.K && (x.N == y.N && x.S == y.S)
def Fld.fits (x y : Fld) : Bool := if x.K = 3 then y.K == 1 else if x.K = 4 then y.K == 2 else if x.K = 5 then true else x.same y
theorem c_fits (x y : Fld) : Fn prog 174 [eF x, eF y] (.bool (x.fits y)) := by
  refine run_174 rfl fun h => ?_
  simp only [eF]
  repeat' (first
    | simp (implicitDefEqProofs := false) only [push_cast, reduceIte, reduceCtorEq, Nat.reduceAdd, Nat.reduceSub, Nat.reduceEqDiff, Nat.reduceLT, Nat.reduceLeDiff, Nat.reduceBEq, Nat.reduceMul, Int.reduceLT, Int.reduceLE, Int.reduceEq, Int.reduceToNat, Int.reduceMul, Int.reduceNeg, Go.Proofs.Try.f174, eqA, eq_Field, List.zip_cons_cons, List.zip_nil_left, List.foldr_cons, List.foldr_nil]
    | refine Sp2.f ?_ ?_
    | refine Spl.f ?_ ?_ <;> intro hb
    | refine yac rfl (fun b hb => ?_))
  all_goals (simp_all [Fld.fits, Fld.same]; try omega)
theorem ydv {α : Type} (e : α → AV) (l : List α) {g : FuncId} {caps : List AV} (p : α → Bool) (hl : l.length ≤ 4294967296) (hty : ∀ x, tyB prog (e x) 160 = true) (hpl : ∀ x, qag (e x) = true) (hwk : ∀ x, wk prog 6 160 (e x) = e x)
    (hp : ∀ x ∈ l, Fn prog g (e x :: caps) (.bool (p x))) (hy : isY caps = false := by rfl) : Fn prog 175 [.list 160 (l.map e), .fn g caps] (.int .i64 (fidx p l)) := by
  refine run_175 rfl fun h => ?_
  repeat' (first
    | simp (implicitDefEqProofs := false) only [push_cast, reduceIte, reduceCtorEq, Nat.reduceAdd, Nat.reduceSub, Nat.reduceEqDiff, Nat.reduceLT, Nat.reduceLeDiff, Nat.reduceBEq, Nat.reduceMul, Int.reduceLT, Int.reduceLE, Int.reduceEq, Int.reduceToNat, Int.reduceMul, Int.reduceNeg, Go.Proofs.Try.f175, hy, List.length_map]
    | refine Sp2.f ?_ ?_
    | refine Spl.f ?_ ?_ <;> intro hb
    | refine yac rfl (fun b hb => ?_))
  refine zaz (fun i a => [(0, .list 160 (l.map e)), (1, .fn g caps), (4, .int .i64 0), (5, a 5), (7, .int .i64 l.length), (8, .int .i64 i), (9, a 9), (16, a 16)]) (fun _ _ => h) (fun i => i ≤ l.length ∧ ∀ j x, j < i → l[j]? = some x → p x = false) l.length (za4 rfl ⟨[], rfl⟩ ⟨Nat.zero_le _, fun j x hj => by omega⟩) ?_
  rintro i a g' ⟨hi, hinv⟩
  refine ⟨hi, ?_⟩
  by_cases hlt : i < l.length
  · have hx : l[i]? = some l[i] := List.getElem?_eq_getElem hlt
    repeat' (first
    | simp (implicitDefEqProofs := false) only [push_cast, reduceIte, reduceCtorEq, Nat.reduceAdd, Nat.reduceSub, Nat.reduceEqDiff, Nat.reduceLT, Nat.reduceLeDiff, Nat.reduceBEq, Nat.reduceMul, Int.reduceLT, Int.reduceLE, Int.reduceEq, Int.reduceToNat, Int.reduceMul, Int.reduceNeg, Go.Proofs.Try.f175, hy, List.length_map, yaz hlt, yas hlt, zar e hx, Int.toNat_natCast, hty, hpl, hwk, yag (show i < 9223372036854775807 by omega)]
    | refine Sp2.f ?_ ?_
    | refine Spl.f ?_ ?_ <;> intro hb
    | refine yac rfl (fun b hb => ?_)
    | refine qaz (hp _ (List.getElem_mem hlt)) ?_
    | refine za4 ?_ ⟨[], rfl⟩ ?_)
    · rw [fidx_some hx ‹_› hinv]
    · exact ⟨hlt, ydb hx ‹_› hinv⟩
  · repeat' (first
    | simp (implicitDefEqProofs := false) only [push_cast, reduceIte, reduceCtorEq, Nat.reduceAdd, Nat.reduceSub, Nat.reduceEqDiff, Nat.reduceLT, Nat.reduceLeDiff, Nat.reduceBEq, Nat.reduceMul, Int.reduceLT, Int.reduceLE, Int.reduceEq, Int.reduceToNat, Int.reduceMul, Int.reduceNeg, Go.Proofs.Try.f175, hy, List.length_map, ya3 hlt]
    | refine Sp2.f ?_ ?_
    | refine Spl.f ?_ ?_ <;> intro hb
    | refine yac rfl (fun b hb => ?_))
    rw [fidx_none fun j y hj hy => hinv j y (by omega) hy]
theorem qc5 {α : Type} (e : α → AV) (l : List α) {g : FuncId} {caps : List AV} (p : α → Bool) (hl : l.length ≤ 4294967296) (hty : ∀ x, tyB prog (e x) 160 = true) (hpl : ∀ x, qag (e x) = true) (hwk : ∀ x, wk prog 6 160 (e x) = e x)
    (hp : ∀ x ∈ l, Fn prog g (e x :: caps) (.bool (p x))) (hy : isY caps = false := by rfl) : Fn prog 165 [.list 160 (l.map e), .fn g caps] (.bool (l.any p)) := by
  refine run_165 rfl fun h => ?_
  repeat' (first
    | simp (implicitDefEqProofs := false) only [push_cast, reduceIte, reduceCtorEq, Nat.reduceAdd, Nat.reduceSub, Nat.reduceEqDiff, Nat.reduceLT, Nat.reduceLeDiff, Nat.reduceBEq, Nat.reduceMul, Int.reduceLT, Int.reduceLE, Int.reduceEq, Int.reduceToNat, Int.reduceMul, Int.reduceNeg, Go.Proofs.Try.f165, hy, fidx_lt]
    | refine Sp2.f ?_ ?_
    | refine Spl.f ?_ ?_ <;> intro hb
    | refine yac rfl (fun b hb => ?_)
    | refine qaz (ydv e l p hl hty hpl hwk hp hy) ?_)
theorem c_all1 (x : Fld) {g : FuncId} {caps : List AV} {b : Bool} (hp : Fn prog g (eF x :: caps) (.bool b)) (hy : isY caps = false := by rfl) : Fn prog 166 [eF x, .eref 180 (.fn g caps)] (.bool !b) := by
  refine run_166 rfl fun h => ?_
  repeat' (first
    | simp (implicitDefEqProofs := false) only [push_cast, reduceIte, reduceCtorEq, Nat.reduceAdd, Nat.reduceSub, Nat.reduceEqDiff, Nat.reduceLT, Nat.reduceLeDiff, Nat.reduceBEq, Nat.reduceMul, Int.reduceLT, Int.reduceLE, Int.reduceEq, Int.reduceToNat, Int.reduceMul, Int.reduceNeg, Go.Proofs.Try.f166, hy, eF_ty, eF_pl, eF_wk]
    | refine Sp2.f ?_ ?_
    | refine Spl.f ?_ ?_ <;> intro hb
    | refine yac rfl (fun b hb => ?_)
    | refine qaz hp ?_)
theorem c_all (l : List Fld) {g : FuncId} {caps : List AV} (p : Fld → Bool) (hl : l.length ≤ 4294967296) (hd : qcy caps = true) (hp : ∀ x, Fn prog g (eF x :: caps) (.bool (p x))) :
    Fn prog 148 [eFs l, .fn g caps] (.bool (decide (1 ≤ l.length) && decide (l.length ≤ 6) && l.all p)) := by
  refine run_148 rfl fun h => ?_
  have hy := datL_isY hd
  repeat' (first
    | simp (implicitDefEqProofs := false) only [push_cast, reduceIte, reduceCtorEq, Nat.reduceAdd, Nat.reduceSub, Nat.reduceEqDiff, Nat.reduceLT, Nat.reduceLeDiff, Nat.reduceBEq, Nat.reduceMul, Int.reduceLT, Int.reduceLE, Int.reduceEq, Int.reduceToNat, Int.reduceMul, Int.reduceNeg, Go.Proofs.Try.f148, hy, yb3, zce, zb3, eFs, List.length_map]
    | refine Sp2.f ?_ ?_
    | refine Spl.f ?_ ?_ <;> intro hb
    | refine yac rfl (fun b hb => ?_)
    | refine zcd wfp (args' := [.list 160 (l.map eF), .fn 166 [.eref 180 (.fn g caps)]]) ?_ (qc5 eF l (fun x => !p x) hl eF_ty eF_pl eF_wk fun x _ => c_all1 x (hp x) hy) ?_ rfl ?_)
  · simp only [List.map_cons, List.map_nil, ycy _ 8 (ydu l), bw_fnE, bw_refE, zao, List.getElem?_cons_zero, qcz, getE, zb1, zca, ycm caps _ hd]
  · simp only [List.all_cons, List.all_nil, zal, yam, qat _ (qal eF eF_dat l), qat caps hd, Bool.and_self]
  all_goals simp only [decide_eq_true_eq, decide_eq_false_iff_not] at *
  · rw [decide_eq_true (by omega), decide_eq_true (by omega), List.all_eq_not_any_not]; simp
  · rw [decide_eq_false (p := l.length ≤ 6) (by omega)]; simp
  · rw [decide_eq_false (p := 1 ≤ l.length) (by omega)]; simp
def mayT (l : List Fld) : Bool := decide (1 ≤ l.length) && decide (l.length ≤ 6) && l.all Fld.plain
def mayP (l : List Fld) : Bool := decide (1 ≤ l.length) && decide (l.length ≤ 6) && l.all Fld.asked
theorem zc4 (l : List Fld) (hl : l.length ≤ 4294967296) : Fn prog 138 [eFs l] (.bool (mayT l)) := by
  refine run_138 rfl fun h => ?_
  repeat' (first
    | simp (implicitDefEqProofs := false) only [push_cast, reduceIte, reduceCtorEq, Nat.reduceAdd, Nat.reduceSub, Nat.reduceEqDiff, Nat.reduceLT, Nat.reduceLeDiff, Nat.reduceBEq, Nat.reduceMul, Int.reduceLT, Int.reduceLE, Int.reduceEq, Int.reduceToNat, Int.reduceMul, Int.reduceNeg, Go.Proofs.Try.f138, yb3, zce, zb3]
    | refine Sp2.f ?_ ?_
    | refine Spl.f ?_ ?_ <;> intro hb
    | refine yac rfl (fun b hb => ?_)
    | refine qaz (c_all l Fld.plain hl zb5 fun x => c_plain x) ?_)
  all_goals rfl
theorem zbk (l : List Fld) (hl : l.length ≤ 4294967296) : Fn prog 117 [eFs l] (.bool (mayP l)) := by
  refine run_117 rfl fun h => ?_
  repeat' (first
    | simp (implicitDefEqProofs := false) only [push_cast, reduceIte, reduceCtorEq, Nat.reduceAdd, Nat.reduceSub, Nat.reduceEqDiff, Nat.reduceLT, Nat.reduceLeDiff, Nat.reduceBEq, Nat.reduceMul, Int.reduceLT, Int.reduceLE, Int.reduceEq, Int.reduceToNat, Int.reduceMul, Int.reduceNeg, Go.Proofs.Try.f117, yb3, zce, zb3]
    | refine Sp2.f ?_ ?_
    | refine Spl.f ?_ ?_ <;> intro hb
    | refine yac rfl (fun b hb => ?_)
    | refine qaz (c_all l Fld.asked hl zb5 fun x => c_asked x) ?_)
  all_goals rfl
theorem qdv (l m : List Fld) {g : FuncId} (p : Fld → Fld → Bool) (hl : l.length ≤ 4294967296) (hm : m.length ≤ 4294967296) (hp : ∀ x y, Fn prog g [eF x, eF y] (.bool (p x y))) :
    Fn prog 173 [eFs l, eFs m, .fn g []] (.bool (ycf p l m)) := by
  refine run_173 rfl fun h => ?_
  by_cases hlen : l.length = m.length
  · repeat' (first
    | simp (implicitDefEqProofs := false) only [push_cast, reduceIte, reduceCtorEq, Nat.reduceAdd, Nat.reduceSub, Nat.reduceEqDiff, Nat.reduceLT, Nat.reduceLeDiff, Nat.reduceBEq, Nat.reduceMul, Int.reduceLT, Int.reduceLE, Int.reduceEq, Int.reduceToNat, Int.reduceMul, Int.reduceNeg, Go.Proofs.Try.f173, eFs, List.length_map, eq_len hlen]
    | refine Sp2.f ?_ ?_
    | refine Spl.f ?_ ?_ <;> intro hb
    | refine yac rfl (fun b hb => ?_))
    refine zaz (fun i a => [(0, eFs l), (1, eFs m), (2, .fn g []), (6, .bool false), (7, a 7), (8, a 8), (9, a 9), (14, a 14), (15, eFs l), (16, .int .i64 l.length), (17, .int .i64 i), (18, a 18), (30, a 30)]) (fun _ g => h ++ g) (fun i => i ≤ l.length ∧ ∀ j x y, j < i → l[j]? = some x → m[j]? = some y → p x y = true) l.length (za4 rfl ⟨[], (List.append_nil h).symm⟩ ⟨Nat.zero_le _, fun j x y hj => by omega⟩) ?_
    rintro i a g' ⟨hi, hinv⟩
    refine ⟨hi, ?_⟩
    by_cases hlt : i < l.length
    · have hlt' : i < m.length := by omega
      have hx : l[i]? = some l[i] := List.getElem?_eq_getElem hlt
      have hy : m[i]? = some m[i] := List.getElem?_eq_getElem hlt'
      repeat' (first
    | simp (implicitDefEqProofs := false) only [push_cast, reduceIte, reduceCtorEq, Nat.reduceAdd, Nat.reduceSub, Nat.reduceEqDiff, Nat.reduceLT, Nat.reduceLeDiff, Nat.reduceBEq, Nat.reduceMul, Int.reduceLT, Int.reduceLE, Int.reduceEq, Int.reduceToNat, Int.reduceMul, Int.reduceNeg, Go.Proofs.Try.f173, eFs, eF_ty, eF_wk, eF_pl, List.length_map, yaz hlt, yas hlt, yas hlt', zar eF hx, zar eF hy, Int.toNat_natCast, yag (show i < 9223372036854775807 by omega)]
    | refine Sp2.f ?_ ?_
    | refine Spl.f ?_ ?_ <;> intro hb
    | refine yac rfl (fun b hb => ?_)
    | refine qaz (hp l[i] m[i]) ?_
    | refine za4 ?_ ⟨_, rfl⟩ ?_)
      · rw [zbq hx hy (by simpa using ‹(!p l[i] m[i]) = true›)]
      · exact ⟨hlt, qbg hx hy (by simpa using ‹(!p l[i] m[i]) = false›) hinv⟩
    · repeat' (first
    | simp (implicitDefEqProofs := false) only [push_cast, reduceIte, reduceCtorEq, Nat.reduceAdd, Nat.reduceSub, Nat.reduceEqDiff, Nat.reduceLT, Nat.reduceLeDiff, Nat.reduceBEq, Nat.reduceMul, Int.reduceLT, Int.reduceLE, Int.reduceEq, Int.reduceToNat, Int.reduceMul, Int.reduceNeg, Go.Proofs.Try.f173, List.length_map, ya3 hlt]
    | refine Sp2.f ?_ ?_
    | refine Spl.f ?_ ?_ <;> intro hb
    | refine yac rfl (fun b hb => ?_))
      rw [qbz hlen fun j x y hj => hinv j x y (by omega)]
  · repeat' (first
    | simp (implicitDefEqProofs := false) only [push_cast, reduceIte, reduceCtorEq, Nat.reduceAdd, Nat.reduceSub, Nat.reduceEqDiff, Nat.reduceLT, Nat.reduceLeDiff, Nat.reduceBEq, Nat.reduceMul, Int.reduceLT, Int.reduceLE, Int.reduceEq, Int.reduceToNat, Int.reduceMul, Int.reduceNeg, Go.Proofs.Try.f173, eFs, List.length_map, neq_len hlen]
    | refine Sp2.f ?_ ?_
    | refine Spl.f ?_ ?_ <;> intro hb
    | refine yac rfl (fun b hb => ?_))
    rw [yca hlen]
def sameT (l m : List Fld) : Bool := ycf Fld.same l m
def zbu (l m : List Fld) : Bool := mayP l && mayT m && ycf Fld.fits l m
theorem zdv (l m : List Fld) (hl : l.length ≤ 4294967296) (hm : m.length ≤ 4294967296) : Fn prog 164 [eFs l, eFs m] (.bool (zbu l m)) := by
  refine run_164 rfl fun h => ?_
  repeat' (first
    | simp (implicitDefEqProofs := false) only [push_cast, reduceIte, reduceCtorEq, Nat.reduceAdd, Nat.reduceSub, Nat.reduceEqDiff, Nat.reduceLT, Nat.reduceLeDiff, Nat.reduceBEq, Nat.reduceMul, Int.reduceLT, Int.reduceLE, Int.reduceEq, Int.reduceToNat, Int.reduceMul, Int.reduceNeg, Go.Proofs.Try.f164, yb3, zce, zb3]
    | refine Sp2.f ?_ ?_
    | refine Spl.f ?_ ?_ <;> intro hb
    | refine yac rfl (fun b hb => ?_)
    | refine qaz (zbk l hl) ?_
    | refine qaz (zc4 m hm) ?_
    | refine qaz (qdv l m Fld.fits hl hm c_fits) ?_)
  all_goals simp_all [zbu]
end Go.Abs
set_option linter.all false
set_option maxRecDepth 100000
set_option maxHeartbeats 0
namespace Go.Abs
open Go
open Go.Proofs.Try (prog)
structure Req where
  Client : Int
  Seq : Int
  Kind : Int
  P : List Fld
  T : List Fld
  Lease : Int
def eQ (x : Req) : AV := .agg 60 [.int .i64 x.Client, .int .i64 x.Seq, .int .i64 x.Kind, eFs x.P, eFs x.T, .int .i64 x.Lease]
theorem qdt (x : Req) : wk prog 6 60 (eQ x) = eQ x := by simp [eQ, eFs, ybu, qaw, ybq, zbl, sh_60, fl_60]
theorem qdl (x : Req) : tyB prog (eQ x) 60 = true := by simp [eQ, tyB]
theorem zdu (x : Req) : qag (eQ x) = true := rfl
theorem zc3 (l : List Fld) : dat (eFs l) = true := ydu l
theorem eQ_dat (x : Req) : dat (eQ x) = true := by simp [eQ, ybs, qbs, zb5, qdu, zc3]
def opIn (k m : Int) : Bool := decide (1 ≤ k) && decide (k ≤ 8) && (bits .and .i64 (m.fdiv (2 ^ (min (IntKind.wrap .u64 k).toNat IntKind.i64.bits))) 1 == 1)
theorem c_opIn (k m : Int) : Fn prog 137 [.int .i64 k, .int .i64 m] (.bool (opIn k m)) := by
  refine run_137 rfl fun h => ?_
  repeat' (first
    | simp (implicitDefEqProofs := false) only [push_cast, reduceIte, reduceCtorEq, Nat.reduceAdd, Nat.reduceSub, Nat.reduceEqDiff, Nat.reduceLT, Nat.reduceLeDiff, Nat.reduceBEq, Nat.reduceMul, Int.reduceLT, Int.reduceLE, Int.reduceEq, Int.reduceToNat, Int.reduceMul, Int.reduceNeg, Go.Proofs.Try.f137]
    | refine Sp2.f ?_ ?_
    | refine Spl.f ?_ ?_ <;> intro hb
    | refine yac rfl (fun b hb => ?_))
  · have : 1 ≤ k := by simpa using ‹decide (1 ≤ k) = true›
    have : k ≤ 8 := by simpa using ‹decide (k ≤ 8) = true›
    rw [IntWalk.u64_in _ (by omega)]
    omega
  · simp_all [opIn]
  · have : ¬ k ≤ 8 := by simpa using ‹decide (k ≤ 8) = false›
    simp [opIn, this]
  · have : ¬ 1 ≤ k := by simpa using ‹decide (1 ≤ k) = false›
    simp [opIn, this]
def readsK (k : Int) : Bool := opIn k 252
def writesK (k : Int) : Bool := opIn k 234
def putsK (k : Int) : Bool := opIn k 194
theorem c_Reads (k : Int) : Fn prog 139 [.int .i64 k] (.bool (readsK k)) := by
  refine run_139 rfl fun h => ?_
  repeat' (first
    | simp (implicitDefEqProofs := false) only [push_cast, reduceIte, reduceCtorEq, Nat.reduceAdd, Nat.reduceSub, Nat.reduceEqDiff, Nat.reduceLT, Nat.reduceLeDiff, Nat.reduceBEq, Nat.reduceMul, Int.reduceLT, Int.reduceLE, Int.reduceEq, Int.reduceToNat, Int.reduceMul, Int.reduceNeg, Go.Proofs.Try.f139]
    | refine Sp2.f ?_ ?_
    | refine Spl.f ?_ ?_ <;> intro hb
    | refine yac rfl (fun b hb => ?_)
    | refine qaz (c_opIn k _) ?_)
  all_goals rfl
theorem c_Writes (k : Int) : Fn prog 142 [.int .i64 k] (.bool (writesK k)) := by
  refine run_142 rfl fun h => ?_
  repeat' (first
    | simp (implicitDefEqProofs := false) only [push_cast, reduceIte, reduceCtorEq, Nat.reduceAdd, Nat.reduceSub, Nat.reduceEqDiff, Nat.reduceLT, Nat.reduceLeDiff, Nat.reduceBEq, Nat.reduceMul, Int.reduceLT, Int.reduceLE, Int.reduceEq, Int.reduceToNat, Int.reduceMul, Int.reduceNeg, Go.Proofs.Try.f142]
    | refine Sp2.f ?_ ?_
    | refine Spl.f ?_ ?_ <;> intro hb
    | refine yac rfl (fun b hb => ?_)
    | refine qaz (c_opIn k _) ?_)
  all_goals rfl
structure Req.Small (x : Req) : Prop where
  P : x.P.length ≤ 4294967296
  T : x.T.length ≤ 4294967296
def qcp (x : Req) : Bool := decide (0 ≤ x.Client ∧ x.Client < 4 ∧ 1 ≤ x.Seq ∧ x.Seq ≤ 1073741824 ∧ 1 ≤ x.Kind ∧ x.Kind ≤ 8) &&
  ((if putsK x.Kind = true then mayT x.T && decide (0 ≤ x.Lease ∧ x.Lease ≤ 1099511627776) else decide (x.T = []) && decide (x.Lease = 0)) &&
   (if readsK x.Kind = true then mayP x.P else decide (x.P = [])))
theorem len_nil {α : Type} (l : List α) : ((l.length : Int) == 0) = decide (l = []) := by cases l <;> simp; omega
theorem zdn (x : Req) (hx : x.Small) : Fn prog 106 [eQ x] (.bool (qcp x)) := by
  refine run_106 rfl fun h => ?_
  repeat' (first
    | simp (implicitDefEqProofs := false) only [push_cast, reduceIte, reduceCtorEq, Nat.reduceAdd, Nat.reduceSub, Nat.reduceEqDiff, Nat.reduceLT, Nat.reduceLeDiff, Nat.reduceBEq, Nat.reduceMul, Int.reduceLT, Int.reduceLE, Int.reduceEq, Int.reduceToNat, Int.reduceMul, Int.reduceNeg, Go.Proofs.Try.f106, eQ, eFs, List.length_map, len_nil]
    | refine Sp2.f ?_ ?_
    | refine Spl.f ?_ ?_ <;> intro hb
    | refine yac rfl (fun b hb => ?_)
    | refine qaz (c_opIn _ _) ?_
    | refine qaz (zc4 x.T hx.T) ?_
    | refine qaz (c_Reads _) ?_
    | refine qaz (zbk x.P hx.P) ?_)
  all_goals simp only [decide_eq_true_eq, decide_eq_false_iff_not, Int.not_lt, Int.not_le] at *
  all_goals first
    | (have e : ¬ (0 ≤ x.Client ∧ x.Client < 4 ∧ 1 ≤ x.Seq ∧ x.Seq ≤ 1073741824 ∧ 1 ≤ x.Kind ∧ x.Kind ≤ 8) := by omega
       simp only [qcp, e, decide_false, Bool.false_and]; done)
    | (have e : 0 ≤ x.Client ∧ x.Client < 4 ∧ 1 ≤ x.Seq ∧ x.Seq ≤ 1073741824 ∧ 1 ≤ x.Kind ∧ x.Kind ≤ 8 := by omega
       simp only [qcp, decide_eq_true e, Bool.true_and, readsK, putsK])
  all_goals (have hT : mayT [] = false := rfl; have hP : mayP [] = false := rfl)
  all_goals simp only [readsK] at *
  all_goals first
    | grind
    | skip
end Go.Abs
set_option linter.all false
set_option maxRecDepth 100000
set_option maxHeartbeats 0
namespace Go.Abs
open Go
open Go.Proofs.Try (prog)
theorem yar (l : List Fld) (hl : l.length ≤ 4294967296) : Fn prog 141 [eFs l] (eFs l) := by
  refine pure_wk (R := fun r => r = eFs l ∨ (l = [] ∧ r = .nils)) 24 ?_ (fun r hr => ?_)
  · refine run_141 rfl fun h => ?_
    repeat' (first
    | simp (implicitDefEqProofs := false) only [push_cast, reduceIte, reduceCtorEq, Nat.reduceAdd, Nat.reduceSub, Nat.reduceEqDiff, Nat.reduceLT, Nat.reduceLeDiff, Nat.reduceBEq, Nat.reduceMul, Int.reduceLT, Int.reduceLE, Int.reduceEq, Int.reduceToNat, Int.reduceMul, Int.reduceNeg, Go.Proofs.Try.f141, eFs, List.length_map]
    | refine Sp2.f ?_ ?_
    | refine Spl.f ?_ ?_ <;> intro hb
    | refine yac rfl (fun b hb => ?_))
    · rename_i hn
      have : l = [] := by
        cases b with
        | false => simp at hb
        | true =>
          by_cases hl : l = []
          · exact hl
          · simp [hl] at hn
      subst this
      exact res_mk rfl (.inr ⟨rfl, rfl⟩)
    · exact hl
    · have : l = [] := List.eq_nil_of_length_eq_zero (by omega)
      subst this
      exact res_win (e := ⟨160, [], .own⟩) (ys := []) (Nat.le_refl _) (by rw [zao]; rfl) rfl rfl rfl (.inl rfl)
    · exact res_win (e := ⟨160, l.map eF, .own⟩) (ys := l.map eF) (Nat.le_add_right _ _) (by rw [za0]; rfl) rfl (winGet_all (by simp)) (qal eF eF_dat l) (.inl rfl)
  · rcases hr with rfl | ⟨rfl, rfl⟩
    · exact ⟨yb3 l, zb3 l⟩
    · exact ⟨by rw [yb0, sh_24]; rfl, by rw [qbe, sh_24]; rfl⟩
end Go.Abs
set_option linter.all false
set_option maxRecDepth 100000
set_option maxHeartbeats 0
namespace Go.Abs
open Go
open Go.Proofs.Try (prog)
structure Itm where
  Owner : Int
  Until : Int
  T : List Fld
structure Wtr where
  Client : Int
  Seq : Int
  Take : Bool
  P : List Fld
structure Rpl where
  Client : Int
  Seq : Int
  Kind : Int
  T : List Fld
  Late : Bool
structure Spc where
  Now : Int
  Items : List Itm
  Waiters : List Wtr
  Read : Int
  Write : Int
  Last : List Rpl
def eI (x : Itm) : AV := .agg 87 [.int .i64 x.Owner, .int .i64 x.Until, eFs x.T]
def eIs (l : List Itm) : AV := .list 87 (l.map eI)
def eW (x : Wtr) : AV := .agg 89 [.int .i64 x.Client, .int .i64 x.Seq, .bool x.Take, eFs x.P]
def eWs (l : List Wtr) : AV := .list 89 (l.map eW)
def eR (x : Rpl) : AV := .agg 26 [.int .i64 x.Client, .int .i64 x.Seq, .int .i64 x.Kind, eFs x.T, .bool x.Late]
def eRs (l : List Rpl) : AV := .list 26 (l.map eR)
def eL (l : List Rpl) : AV := .agg 27 (l.map eR)
def eS (x : Spc) : AV := .agg 29 [.int .i64 x.Now, eIs x.Items, eWs x.Waiters, .int .i64 x.Read, .int .i64 x.Write, eL x.Last]
theorem eI_wk (x : Itm) : wk prog 6 87 (eI x) = eI x := by simp [eI, eFs, ybu, qaw, ybq, zbl, sh_87, fl_87]
theorem eI_ty (x : Itm) : tyB prog (eI x) 87 = true := by simp [eI, tyB]
theorem eI_pl (x : Itm) : qag (eI x) = true := rfl
theorem qco (x : Itm) : dat (eI x) = true := by simp [eI, ybs, qbs, zb5, qdu, zc3]
theorem eIs_dat (l : List Itm) : dat (eIs l) = true := by rw [eIs, zcm]; exact qal eI qco l
theorem eW_dat (x : Wtr) : dat (eW x) = true := by simp [eW, ybs, qbs, zb5, qdu, dat_bool, zc3]
theorem eWs_dat (l : List Wtr) : dat (eWs l) = true := by rw [eWs, zcm]; exact qal eW eW_dat l
theorem eR_wk (n : Nat) (x : Rpl) : wk prog (n + 2) 26 (eR x) = eR x := by simp [eR, eFs, ybu, qaw, ybq, wk_bool, zbl, sh_26, fl_26]
theorem eR_ty (x : Rpl) : tyB prog (eR x) 26 = true := by simp [eR, tyB]
theorem eR_pl (x : Rpl) : qag (eR x) = true := rfl
theorem eR_dat (x : Rpl) : dat (eR x) = true := by simp [eR, ybs, qbs, zb5, qdu, dat_bool, zc3]
theorem eRs_dat (l : List Rpl) : dat (eRs l) = true := by rw [eRs, zcm]; exact qal eR eR_dat l
theorem eL_dat (l : List Rpl) : dat (eL l) = true := by rw [eL, ybs]; exact qal eR eR_dat l
theorem zc8 (x : Spc) : dat (eS x) = true := by simp [eS, ybs, qbs, zb5, qdu, eIs_dat, eWs_dat, eL_dat]
theorem qbt (n : Nat) (l : List Rpl) : wk prog (n + 3) 27 (eL l) = eL l := by
  have : (wk prog (n + 2) 26) ∘ eR = eR := by funext x; exact eR_wk n x
  simp [eL, ybu, wkAgg_arr, sh_27, this]
theorem qch (x : Spc) : wk prog 6 29 (eS x) = eS x := by
  have h := qbt 2 x.Last
  simp only [eS, eIs, eWs, ybu, qaw, ybq, zbl, sh_29, fl_29, List.zipWith_cons_cons, List.zipWith_nil_left, if_true]
  rw [h]
theorem yb9 (x : Spc) : tyB prog (eS x) 29 = true := by simp [eS, tyB]
theorem ycp (x : Spc) : qag (eS x) = true := rfl
def zay (c : Int) : Bool := decide (0 ≤ c) && decide (c < 4)
theorem c_client (c : Int) : Fn prog 116 [.int .i64 c] (.bool (zay c)) := by
  refine run_116 rfl fun h => ?_
  repeat' (first
    | simp (implicitDefEqProofs := false) only [push_cast, reduceIte, reduceCtorEq, Nat.reduceAdd, Nat.reduceSub, Nat.reduceEqDiff, Nat.reduceLT, Nat.reduceLeDiff, Nat.reduceBEq, Nat.reduceMul, Int.reduceLT, Int.reduceLE, Int.reduceEq, Int.reduceToNat, Int.reduceMul, Int.reduceNeg, Go.Proofs.Try.f116]
    | refine Sp2.f ?_ ?_
    | refine Spl.f ?_ ?_ <;> intro hb
    | refine yac rfl (fun b hb => ?_))
  all_goals grind [zay]
def mayI (x : Itm) (now : Int) : Bool := zay x.Owner && (decide (x.Until = 0) || (decide (now < x.Until) && decide (x.Until ≤ 2199023255552))) && mayT x.T
theorem c_mayItem (x : Itm) (now : Int) (hx : x.T.length ≤ 4294967296) : Fn prog 115 [eI x, .int .i64 now] (.bool (mayI x now)) := by
  refine run_115 rfl fun h => ?_
  repeat' (first
    | simp (implicitDefEqProofs := false) only [push_cast, reduceIte, reduceCtorEq, Nat.reduceAdd, Nat.reduceSub, Nat.reduceEqDiff, Nat.reduceLT, Nat.reduceLeDiff, Nat.reduceBEq, Nat.reduceMul, Int.reduceLT, Int.reduceLE, Int.reduceEq, Int.reduceToNat, Int.reduceMul, Int.reduceNeg, Go.Proofs.Try.f115, eI, eFs, List.length_map]
    | refine Sp2.f ?_ ?_
    | refine Spl.f ?_ ?_ <;> intro hb
    | refine yac rfl (fun b hb => ?_)
    | refine qaz (c_client _) ?_
    | refine qaz (zc4 x.T hx) ?_)
  all_goals grind [mayI]
def mayL (x : Rpl) (c : Int) : Bool := decide (x.Client = c) && decide (0 ≤ x.Seq ∧ x.Seq ≤ 1073741824) &&
  (if x.Seq = 0 then decide (x.Kind = 0) && decide (x.T = []) && !x.Late else if x.Kind = 2 then mayT x.T else decide (1 ≤ x.Kind ∧ x.Kind ≤ 6) && decide (x.T = []) && !x.Late)
theorem c_mayLast (x : Rpl) (c : Int) (hx : x.T.length ≤ 4294967296) : Fn prog 118 [eR x, .int .i64 c] (.bool (mayL x c)) := by
  refine run_118 rfl fun h => ?_
  repeat' (first
    | simp (implicitDefEqProofs := false) only [push_cast, reduceIte, reduceCtorEq, Nat.reduceAdd, Nat.reduceSub, Nat.reduceEqDiff, Nat.reduceLT, Nat.reduceLeDiff, Nat.reduceBEq, Nat.reduceMul, Int.reduceLT, Int.reduceLE, Int.reduceEq, Int.reduceToNat, Int.reduceMul, Int.reduceNeg, Go.Proofs.Try.f118, eR, eFs, List.length_map, len_nil]
    | refine Sp2.f ?_ ?_
    | refine Spl.f ?_ ?_ <;> intro hb
    | refine yac rfl (fun b hb => ?_)
    | refine qaz (zc4 x.T hx) ?_)
  all_goals grind [mayL]
theorem c_Find1 (x : Itm) (p : List Fld) (hx : x.T.length ≤ 4294967296) (hp : p.length ≤ 4294967296) : Fn prog 163 [eI x, .eref 24 (eFs p)] (.bool (zbu p x.T)) := by
  refine run_163 rfl fun h => ?_
  repeat' (first
    | simp (implicitDefEqProofs := false) only [push_cast, reduceIte, reduceCtorEq, Nat.reduceAdd, Nat.reduceSub, Nat.reduceEqDiff, Nat.reduceLT, Nat.reduceLeDiff, Nat.reduceBEq, Nat.reduceMul, Int.reduceLT, Int.reduceLE, Int.reduceEq, Int.reduceToNat, Int.reduceMul, Int.reduceNeg, Go.Proofs.Try.f163, eI, eFs, List.length_map]
    | refine Sp2.f ?_ ?_
    | refine Spl.f ?_ ?_ <;> intro hb
    | refine yac rfl (fun b hb => ?_)
    | refine qaz (zdv p x.T hp hx) ?_)
  all_goals rfl
end Go.Abs
set_option linter.all false
set_option maxRecDepth 100000
set_option maxHeartbeats 0
namespace Go.Abs
open Go
open Go.Proofs.Try (prog)
theorem zcp {α : Type} (e : α → AV) (l : List α) {g : FuncId} {caps : List AV} (p : α → Bool) (hl : l.length ≤ 4294967296) (hty : ∀ x, tyB prog (e x) 87 = true) (hpl : ∀ x, qag (e x) = true) (hwk : ∀ x, wk prog 6 87 (e x) = e x)
    (hp : ∀ x ∈ l, Fn prog g (e x :: caps) (.bool (p x))) (hy : isY caps = false := by rfl) : Fn prog 140 [.list 87 (l.map e), .fn g caps] (.int .i64 (fidx p l)) := by
  refine run_140 rfl fun h => ?_
  repeat' (first
    | simp (implicitDefEqProofs := false) only [push_cast, reduceIte, reduceCtorEq, Nat.reduceAdd, Nat.reduceSub, Nat.reduceEqDiff, Nat.reduceLT, Nat.reduceLeDiff, Nat.reduceBEq, Nat.reduceMul, Int.reduceLT, Int.reduceLE, Int.reduceEq, Int.reduceToNat, Int.reduceMul, Int.reduceNeg, Go.Proofs.Try.f140, hy, List.length_map]
    | refine Sp2.f ?_ ?_
    | refine Spl.f ?_ ?_ <;> intro hb
    | refine yac rfl (fun b hb => ?_))
  refine zaz (fun i a => [(0, .list 87 (l.map e)), (1, .fn g caps), (4, .int .i64 0), (5, a 5), (7, .int .i64 l.length), (8, .int .i64 i), (9, a 9), (16, a 16)]) (fun _ _ => h) (fun i => i ≤ l.length ∧ ∀ j x, j < i → l[j]? = some x → p x = false) l.length (za4 rfl ⟨[], rfl⟩ ⟨Nat.zero_le _, fun j x hj => by omega⟩) ?_
  rintro i a g' ⟨hi, hinv⟩
  refine ⟨hi, ?_⟩
  by_cases hlt : i < l.length
  · have hx : l[i]? = some l[i] := List.getElem?_eq_getElem hlt
    repeat' (first
    | simp (implicitDefEqProofs := false) only [push_cast, reduceIte, reduceCtorEq, Nat.reduceAdd, Nat.reduceSub, Nat.reduceEqDiff, Nat.reduceLT, Nat.reduceLeDiff, Nat.reduceBEq, Nat.reduceMul, Int.reduceLT, Int.reduceLE, Int.reduceEq, Int.reduceToNat, Int.reduceMul, Int.reduceNeg, Go.Proofs.Try.f140, hy, List.length_map, yaz hlt, yas hlt, zar e hx, Int.toNat_natCast, hty, hpl, hwk, yag (show i < 9223372036854775807 by omega)]
    | refine Sp2.f ?_ ?_
    | refine Spl.f ?_ ?_ <;> intro hb
    | refine yac rfl (fun b hb => ?_)
    | refine qaz (hp _ (List.getElem_mem hlt)) ?_
    | refine za4 ?_ ⟨[], rfl⟩ ?_)
    · rw [fidx_some hx ‹_› hinv]
    · exact ⟨hlt, ydb hx ‹_› hinv⟩
  · repeat' (first
    | simp (implicitDefEqProofs := false) only [push_cast, reduceIte, reduceCtorEq, Nat.reduceAdd, Nat.reduceSub, Nat.reduceEqDiff, Nat.reduceLT, Nat.reduceLeDiff, Nat.reduceBEq, Nat.reduceMul, Int.reduceLT, Int.reduceLE, Int.reduceEq, Int.reduceToNat, Int.reduceMul, Int.reduceNeg, Go.Proofs.Try.f140, hy, List.length_map, ya3 hlt]
    | refine Sp2.f ?_ ?_
    | refine Spl.f ?_ ?_ <;> intro hb
    | refine yac rfl (fun b hb => ?_))
    rw [fidx_none fun j y hj hy => hinv j y (by omega) hy]
def smallI (l : List Itm) : Prop := l.length ≤ 4294967296 ∧ ∀ x ∈ l, x.T.length ≤ 4294967296
def smallW (l : List Wtr) : Prop := l.length ≤ 4294967296 ∧ ∀ x ∈ l, x.P.length ≤ 4294967296
def smallR (l : List Rpl) : Prop := l.length ≤ 4294967296 ∧ ∀ x ∈ l, x.T.length ≤ 4294967296
structure Spc.Small (s : Spc) : Prop where
  items : smallI s.Items
  waiters : smallW s.Waiters
  last : smallR s.Last
  four : s.Last.length = 4
def qbl (s : Spc) (p : List Fld) : Int := fidx (fun x => zbu p x.T) s.Items
theorem c_Find (s : Spc) (p : List Fld) (hs : smallI s.Items) (hp : p.length ≤ 4294967296) : Fn prog 146 [eS s, eFs p] (.int .i64 (qbl s p)) := by
  refine run_146 rfl fun h => ?_
  repeat' (first
    | simp (implicitDefEqProofs := false) only [push_cast, reduceIte, reduceCtorEq, Nat.reduceAdd, Nat.reduceSub, Nat.reduceEqDiff, Nat.reduceLT, Nat.reduceLeDiff, Nat.reduceBEq, Nat.reduceMul, Int.reduceLT, Int.reduceLE, Int.reduceEq, Int.reduceToNat, Int.reduceMul, Int.reduceNeg, Go.Proofs.Try.f146, eS, eFs, eIs, List.length_map]
    | refine Sp2.f ?_ ?_
    | refine Spl.f ?_ ?_ <;> intro hb
    | refine yac rfl (fun b hb => ?_)
    | refine zcd wfp (args' := [.list 87 (s.Items.map eI), .fn 163 [.eref 24 (eFs p)]]) ?_ (zcp eI s.Items (fun x => zbu p x.T) hs.1 eI_ty eI_pl eI_wk fun x hx => c_Find1 x p (hs.2 x hx) hp) ?_ rfl ?_)
  · simp only [List.map_cons, List.map_nil, ycy _ 8 (show dat (.list 87 (s.Items.map eI)) = true from eIs_dat s.Items), bw_fnE, bw_refE, zao, za0, List.getElem?_cons_zero, List.getElem?_cons_succ, qcz, getE, zb1, zca, ycy _ 6 (ydu p)]
  · simp only [List.all_cons, List.all_nil, zal, yam, qat _ (qal eI qco s.Items), qat _ (qal eF eF_dat p), eFs, Bool.and_self]
  all_goals rfl
def rp0 (c : Int) : AV := .agg 26 [.int .i64 c, .int .i64 0, .int .i64 0, .nils, .bool false]
def lst (i : Nat) : List AV := [rp0 0, rp0 (if 1 < i then 1 else 0), rp0 (if 2 < i then 2 else 0), rp0 (if 3 < i then 3 else 0)]
def qb2 (r w : Int) : Spc := ⟨0, [], [], bits .and .i64 r 15, bits .and .i64 w 15, [⟨0, 0, 0, [], false⟩, ⟨1, 0, 0, [], false⟩, ⟨2, 0, 0, [], false⟩, ⟨3, 0, 0, [], false⟩]⟩
def spcN (r w : Int) (i : Nat) : AV := .agg 29 [.int .i64 0, .nils, .nils, .int .i64 (bits .and .i64 r 15), .int .i64 (bits .and .i64 w 15), .agg 27 (lst i)]
end Go.Abs
