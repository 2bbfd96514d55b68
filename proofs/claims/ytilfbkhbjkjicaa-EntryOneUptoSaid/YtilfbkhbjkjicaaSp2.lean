/- Sp2: a part of the proofs about the tuple space and its bytes. -/
import Derived.Test.YtilfbkhbjkjicaaFa1
set_option linter.all false
set_option maxRecDepth 100000
set_option maxHeartbeats 0
namespace Go.Abs
open Go
open Go.Proofs.Try (prog)
structure Fld where
  K : Int
  N : Int
  S : ByteArray
def eF (x : Fld) : AV := .agg 160 [.int .i64 x.K, .int .i64 x.N, .str x.S]
def eFs (l : List Fld) : AV := .list 160 (l.map eF)
theorem zdp : eqT prog 160 = true := by kernel_rfl
theorem eF_wk (x : Fld) : wk prog 6 160 (eF x) = eF x := by simp [eF, zbq, qau, zbp, wk_str, sh_160, fl_160, sh_3, sh_2, sh_9]
theorem eF_ty (x : Fld) : tyB prog (eF x) 160 = true := by simp [eF, tyB]
theorem eF_pl (x : Fld) : yah (eF x) = true := rfl
theorem eF_dat (x : Fld) : dat (eF x) = true := rfl
theorem ydy (l : List Fld) : dat (.list 160 (l.map eF)) = true := by rw [qcj]; exact zal eF eF_dat l
theorem zak (l : List Fld) : wk prog 6 24 (eFs l) = eFs l := zbc ..
theorem yak (l : List Fld) : tyB prog (eFs l) 24 = true := by simp [eFs, tyB, ydd]
theorem qal (l : List Fld) : yah (eFs l) = true := rfl
def Fld.plain (x : Fld) : Bool := if x.K = 1 then x.S == ⟨#[]⟩ else if x.K = 2 then decide (x.N = 0) && decide (x.S.size ≤ 40) else false
theorem c_plain (x : Fld) : Fn prog 158 [eF x] (.bool x.plain) := by
  refine run_158 rfl fun h => ?_
  simp only [eF]
  repeat' (first
    | simp (implicitDefEqProofs := false) only [push_cast, reduceIte, reduceCtorEq, Nat.reduceAdd, Nat.reduceSub, Nat.reduceEqDiff, Nat.reduceLT, Nat.reduceLeDiff, Nat.reduceBEq, Nat.reduceMul, Int.reduceLT, Int.reduceLE, Int.reduceEq, Int.reduceToNat, Int.reduceMul, Int.reduceNeg, Go.Proofs.Try.f158]
    | refine Sp2.f ?_ ?_
    | refine Spl.f ?_ ?_ <;> intro hb
    | refine qac rfl (fun b hb => ?_))
  all_goals (simp_all [Fld.plain]; try omega)
def Fld.asked (x : Fld) : Bool := if x.K = 3 ∨ x.K = 4 ∨ x.K = 5 then decide (x.N = 0) && x.S == ⟨#[]⟩ else x.plain
theorem c_asked (x : Fld) : Fn prog 149 [eF x] (.bool x.asked) := by
  refine run_149 rfl fun h => ?_
  simp only [eF]
  repeat' (first
    | simp (implicitDefEqProofs := false) only [push_cast, reduceIte, reduceCtorEq, Nat.reduceAdd, Nat.reduceSub, Nat.reduceEqDiff, Nat.reduceLT, Nat.reduceLeDiff, Nat.reduceBEq, Nat.reduceMul, Int.reduceLT, Int.reduceLE, Int.reduceEq, Int.reduceToNat, Int.reduceMul, Int.reduceNeg, Go.Proofs.Try.f149]
    | refine Sp2.f ?_ ?_
    | refine Spl.f ?_ ?_ <;> intro hb
    | refine qac rfl (fun b hb => ?_)
    | refine zat (c_plain x) ?_)
  all_goals (simp_all [Fld.asked]; try omega)
def Fld.same (x y : Fld) : Bool := x.K == y.K && (x.N == y.N && x.S == y.S)
def Fld.fits (x y : Fld) : Bool := if x.K = 3 then y.K == 1 else if x.K = 4 then y.K == 2 else if x.K = 5 then true else x.same y
theorem c_fits (x y : Fld) : Fn prog 174 [eF x, eF y] (.bool (x.fits y)) := by
  refine run_174 rfl fun h => ?_
  simp only [eF]
  repeat' (first
    | simp (implicitDefEqProofs := false) only [push_cast, reduceIte, reduceCtorEq, Nat.reduceAdd, Nat.reduceSub, Nat.reduceEqDiff, Nat.reduceLT, Nat.reduceLeDiff, Nat.reduceBEq, Nat.reduceMul, Int.reduceLT, Int.reduceLE, Int.reduceEq, Int.reduceToNat, Int.reduceMul, Int.reduceNeg, Go.Proofs.Try.f174, eqA, zdp, List.zip_cons_cons, List.zip_nil_left, List.foldr_cons, List.foldr_nil]
    | refine Sp2.f ?_ ?_
    | refine Spl.f ?_ ?_ <;> intro hb
    | refine qac rfl (fun b hb => ?_))
  all_goals (simp_all [Fld.fits, Fld.same]; try omega)
theorem c_IndexFunc_Field {α : Type} (e : α → AV) (l : List α) {g : FuncId} {caps : List AV} (p : α → Bool) (hl : l.length ≤ 4294967296) (hty : ∀ x, tyB prog (e x) 160 = true) (hpl : ∀ x, yah (e x) = true) (hwk : ∀ x, wk prog 6 160 (e x) = e x)
    (hp : ∀ x ∈ l, Fn prog g (e x :: caps) (.bool (p x))) (hy : isY caps = false := by rfl) : Fn prog 175 [.list 160 (l.map e), .fn g caps] (.int .i64 (fidx p l)) := by
  refine run_175 rfl fun h => ?_
  repeat' (first
    | simp (implicitDefEqProofs := false) only [push_cast, reduceIte, reduceCtorEq, Nat.reduceAdd, Nat.reduceSub, Nat.reduceEqDiff, Nat.reduceLT, Nat.reduceLeDiff, Nat.reduceBEq, Nat.reduceMul, Int.reduceLT, Int.reduceLE, Int.reduceEq, Int.reduceToNat, Int.reduceMul, Int.reduceNeg, Go.Proofs.Try.f175, hy, List.length_map]
    | refine Sp2.f ?_ ?_
    | refine Spl.f ?_ ?_ <;> intro hb
    | refine qac rfl (fun b hb => ?_))
  refine ya9 (fun i a => [(0, .list 160 (l.map e)), (1, .fn g caps), (4, .int .i64 0), (5, a 5), (7, .int .i64 l.length), (8, .int .i64 i), (9, a 9), (16, a 16)]) (fun _ _ => h) (fun i => i ≤ l.length ∧ ∀ j x, j < i → l[j]? = some x → p x = false) l.length (qa5 rfl ⟨[], rfl⟩ ⟨Nat.zero_le _, fun j x hj => by omega⟩) ?_
  rintro i a g' ⟨hi, hinv⟩
  refine ⟨hi, ?_⟩
  by_cases hlt : i < l.length
  · have hx : l[i]? = some l[i] := List.getElem?_eq_getElem hlt
    repeat' (first
    | simp (implicitDefEqProofs := false) only [push_cast, reduceIte, reduceCtorEq, Nat.reduceAdd, Nat.reduceSub, Nat.reduceEqDiff, Nat.reduceLT, Nat.reduceLeDiff, Nat.reduceBEq, Nat.reduceMul, Int.reduceLT, Int.reduceLE, Int.reduceEq, Int.reduceToNat, Int.reduceMul, Int.reduceNeg, Go.Proofs.Try.f175, hy, List.length_map, yaj hlt, qaj hlt, zai e hx, Int.toNat_natCast, hty, hpl, hwk, qaf (show i < 9223372036854775807 by omega)]
    | refine Sp2.f ?_ ?_
    | refine Spl.f ?_ ?_ <;> intro hb
    | refine qac rfl (fun b hb => ?_)
    | refine zat (hp _ (List.getElem_mem hlt)) ?_
    | refine qa5 ?_ ⟨[], rfl⟩ ?_)
    · rw [ydo hx ‹_› hinv]
    · exact ⟨hlt, yco hx ‹_› hinv⟩
  · repeat' (first
    | simp (implicitDefEqProofs := false) only [push_cast, reduceIte, reduceCtorEq, Nat.reduceAdd, Nat.reduceSub, Nat.reduceEqDiff, Nat.reduceLT, Nat.reduceLeDiff, Nat.reduceBEq, Nat.reduceMul, Int.reduceLT, Int.reduceLE, Int.reduceEq, Int.reduceToNat, Int.reduceMul, Int.reduceNeg, Go.Proofs.Try.f175, hy, List.length_map, yal hlt]
    | refine Sp2.f ?_ ?_
    | refine Spl.f ?_ ?_ <;> intro hb
    | refine qac rfl (fun b hb => ?_))
    rw [qdo fun j y hj hy => hinv j y (by omega) hy]
theorem qda {α : Type} (e : α → AV) (l : List α) {g : FuncId} {caps : List AV} (p : α → Bool) (hl : l.length ≤ 4294967296) (hty : ∀ x, tyB prog (e x) 160 = true) (hpl : ∀ x, yah (e x) = true) (hwk : ∀ x, wk prog 6 160 (e x) = e x)
    (hp : ∀ x ∈ l, Fn prog g (e x :: caps) (.bool (p x))) (hy : isY caps = false := by rfl) : Fn prog 165 [.list 160 (l.map e), .fn g caps] (.bool (l.any p)) := by
  refine run_165 rfl fun h => ?_
  repeat' (first
    | simp (implicitDefEqProofs := false) only [push_cast, reduceIte, reduceCtorEq, Nat.reduceAdd, Nat.reduceSub, Nat.reduceEqDiff, Nat.reduceLT, Nat.reduceLeDiff, Nat.reduceBEq, Nat.reduceMul, Int.reduceLT, Int.reduceLE, Int.reduceEq, Int.reduceToNat, Int.reduceMul, Int.reduceNeg, Go.Proofs.Try.f165, hy, fidx_lt]
    | refine Sp2.f ?_ ?_
    | refine Spl.f ?_ ?_ <;> intro hb
    | refine qac rfl (fun b hb => ?_)
    | refine zat (c_IndexFunc_Field e l p hl hty hpl hwk hp hy) ?_)
theorem c_all1 (x : Fld) {g : FuncId} {caps : List AV} {b : Bool} (hp : Fn prog g (eF x :: caps) (.bool b)) (hy : isY caps = false := by rfl) : Fn prog 166 [eF x, .eref 180 (.fn g caps)] (.bool !b) := by
  refine run_166 rfl fun h => ?_
  repeat' (first
    | simp (implicitDefEqProofs := false) only [push_cast, reduceIte, reduceCtorEq, Nat.reduceAdd, Nat.reduceSub, Nat.reduceEqDiff, Nat.reduceLT, Nat.reduceLeDiff, Nat.reduceBEq, Nat.reduceMul, Int.reduceLT, Int.reduceLE, Int.reduceEq, Int.reduceToNat, Int.reduceMul, Int.reduceNeg, Go.Proofs.Try.f166, hy, eF_ty, eF_pl, eF_wk]
    | refine Sp2.f ?_ ?_
    | refine Spl.f ?_ ?_ <;> intro hb
    | refine qac rfl (fun b hb => ?_)
    | refine zat hp ?_)
theorem c_all (l : List Fld) {g : FuncId} {caps : List AV} (p : Fld → Bool) (hl : l.length ≤ 4294967296) (hd : zc4 caps = true) (hp : ∀ x, Fn prog g (eF x :: caps) (.bool (p x))) :
    Fn prog 148 [eFs l, .fn g caps] (.bool (decide (1 ≤ l.length) && decide (l.length ≤ 6) && l.all p)) := by
  refine run_148 rfl fun h => ?_
  have hy := datL_isY hd
  repeat' (first
    | simp (implicitDefEqProofs := false) only [push_cast, reduceIte, reduceCtorEq, Nat.reduceAdd, Nat.reduceSub, Nat.reduceEqDiff, Nat.reduceLT, Nat.reduceLeDiff, Nat.reduceBEq, Nat.reduceMul, Int.reduceLT, Int.reduceLE, Int.reduceEq, Int.reduceToNat, Int.reduceMul, Int.reduceNeg, Go.Proofs.Try.f148, hy, yak, qal, zak, eFs, List.length_map]
    | refine Sp2.f ?_ ?_
    | refine Spl.f ?_ ?_ <;> intro hb
    | refine qac rfl (fun b hb => ?_)
    | refine ycp wfp (args' := [.list 160 (l.map eF), .fn 166 [.eref 180 (.fn g caps)]]) ?_ (qda eF l (fun x => !p x) hl eF_ty eF_pl eF_wk fun x _ => c_all1 x (hp x) hy) ?_ rfl ?_)
  · simp only [List.map_cons, List.map_nil, qcd _ 8 (ydy l), bw_fnE, bw_refE, yas, List.getElem?_cons_zero, qc4, getE, za7, qce, qc3 caps _ hd]
  · simp only [List.all_cons, List.all_nil, qam, zaq, yaw _ (zal eF eF_dat l), yaw caps hd, Bool.and_self]
  all_goals simp only [decide_eq_true_eq, decide_eq_false_iff_not] at *
  · rw [decide_eq_true (by omega), decide_eq_true (by omega), List.all_eq_not_any_not]; simp
  · rw [decide_eq_false (p := l.length ≤ 6) (by omega)]; simp
  · rw [decide_eq_false (p := 1 ≤ l.length) (by omega)]; simp
def mayT (l : List Fld) : Bool := decide (1 ≤ l.length) && decide (l.length ≤ 6) && l.all Fld.plain
def zdt (l : List Fld) : Bool := decide (1 ≤ l.length) && decide (l.length ≤ 6) && l.all Fld.asked
theorem yc9 (l : List Fld) (hl : l.length ≤ 4294967296) : Fn prog 138 [eFs l] (.bool (mayT l)) := by
  refine run_138 rfl fun h => ?_
  repeat' (first
    | simp (implicitDefEqProofs := false) only [push_cast, reduceIte, reduceCtorEq, Nat.reduceAdd, Nat.reduceSub, Nat.reduceEqDiff, Nat.reduceLT, Nat.reduceLeDiff, Nat.reduceBEq, Nat.reduceMul, Int.reduceLT, Int.reduceLE, Int.reduceEq, Int.reduceToNat, Int.reduceMul, Int.reduceNeg, Go.Proofs.Try.f138, yak, qal, zak]
    | refine Sp2.f ?_ ?_
    | refine Spl.f ?_ ?_ <;> intro hb
    | refine qac rfl (fun b hb => ?_)
    | refine zat (c_all l Fld.plain hl zb8 fun x => c_plain x) ?_)
  all_goals rfl
theorem qbo (l : List Fld) (hl : l.length ≤ 4294967296) : Fn prog 117 [eFs l] (.bool (zdt l)) := by
  refine run_117 rfl fun h => ?_
  repeat' (first
    | simp (implicitDefEqProofs := false) only [push_cast, reduceIte, reduceCtorEq, Nat.reduceAdd, Nat.reduceSub, Nat.reduceEqDiff, Nat.reduceLT, Nat.reduceLeDiff, Nat.reduceBEq, Nat.reduceMul, Int.reduceLT, Int.reduceLE, Int.reduceEq, Int.reduceToNat, Int.reduceMul, Int.reduceNeg, Go.Proofs.Try.f117, yak, qal, zak]
    | refine Sp2.f ?_ ?_
    | refine Spl.f ?_ ?_ <;> intro hb
    | refine qac rfl (fun b hb => ?_)
    | refine zat (c_all l Fld.asked hl zb8 fun x => c_asked x) ?_)
  all_goals rfl
theorem c_EqualFunc_Field (l m : List Fld) {g : FuncId} (p : Fld → Fld → Bool) (hl : l.length ≤ 4294967296) (hm : m.length ≤ 4294967296) (hp : ∀ x y, Fn prog g [eF x, eF y] (.bool (p x y))) :
    Fn prog 173 [eFs l, eFs m, .fn g []] (.bool (qb8 p l m)) := by
  refine run_173 rfl fun h => ?_
  by_cases hlen : l.length = m.length
  · repeat' (first
    | simp (implicitDefEqProofs := false) only [push_cast, reduceIte, reduceCtorEq, Nat.reduceAdd, Nat.reduceSub, Nat.reduceEqDiff, Nat.reduceLT, Nat.reduceLeDiff, Nat.reduceBEq, Nat.reduceMul, Int.reduceLT, Int.reduceLE, Int.reduceEq, Int.reduceToNat, Int.reduceMul, Int.reduceNeg, Go.Proofs.Try.f173, eFs, List.length_map, eq_len hlen]
    | refine Sp2.f ?_ ?_
    | refine Spl.f ?_ ?_ <;> intro hb
    | refine qac rfl (fun b hb => ?_))
    refine ya9 (fun i a => [(0, eFs l), (1, eFs m), (2, .fn g []), (6, .bool false), (7, a 7), (8, a 8), (9, a 9), (14, a 14), (15, eFs l), (16, .int .i64 l.length), (17, .int .i64 i), (18, a 18), (30, a 30)]) (fun _ g => h ++ g) (fun i => i ≤ l.length ∧ ∀ j x y, j < i → l[j]? = some x → m[j]? = some y → p x y = true) l.length (qa5 rfl ⟨[], (List.append_nil h).symm⟩ ⟨Nat.zero_le _, fun j x y hj => by omega⟩) ?_
    rintro i a g' ⟨hi, hinv⟩
    refine ⟨hi, ?_⟩
    by_cases hlt : i < l.length
    · have hlt' : i < m.length := by omega
      have hx : l[i]? = some l[i] := List.getElem?_eq_getElem hlt
      have hy : m[i]? = some m[i] := List.getElem?_eq_getElem hlt'
      repeat' (first
    | simp (implicitDefEqProofs := false) only [push_cast, reduceIte, reduceCtorEq, Nat.reduceAdd, Nat.reduceSub, Nat.reduceEqDiff, Nat.reduceLT, Nat.reduceLeDiff, Nat.reduceBEq, Nat.reduceMul, Int.reduceLT, Int.reduceLE, Int.reduceEq, Int.reduceToNat, Int.reduceMul, Int.reduceNeg, Go.Proofs.Try.f173, eFs, eF_ty, eF_wk, eF_pl, List.length_map, yaj hlt, qaj hlt, qaj hlt', zai eF hx, zai eF hy, Int.toNat_natCast, qaf (show i < 9223372036854775807 by omega)]
    | refine Sp2.f ?_ ?_
    | refine Spl.f ?_ ?_ <;> intro hb
    | refine qac rfl (fun b hb => ?_)
    | refine zat (hp l[i] m[i]) ?_
    | refine qa5 ?_ ⟨_, rfl⟩ ?_)
      · rw [qbe hx hy (by simpa using ‹(!p l[i] m[i]) = true›)]
      · exact ⟨hlt, yay hx hy (by simpa using ‹(!p l[i] m[i]) = false›) hinv⟩
    · repeat' (first
    | simp (implicitDefEqProofs := false) only [push_cast, reduceIte, reduceCtorEq, Nat.reduceAdd, Nat.reduceSub, Nat.reduceEqDiff, Nat.reduceLT, Nat.reduceLeDiff, Nat.reduceBEq, Nat.reduceMul, Int.reduceLT, Int.reduceLE, Int.reduceEq, Int.reduceToNat, Int.reduceMul, Int.reduceNeg, Go.Proofs.Try.f173, List.length_map, yal hlt]
    | refine Sp2.f ?_ ?_
    | refine Spl.f ?_ ?_ <;> intro hb
    | refine qac rfl (fun b hb => ?_))
      rw [qbm hlen fun j x y hj => hinv j x y (by omega)]
  · repeat' (first
    | simp (implicitDefEqProofs := false) only [push_cast, reduceIte, reduceCtorEq, Nat.reduceAdd, Nat.reduceSub, Nat.reduceEqDiff, Nat.reduceLT, Nat.reduceLeDiff, Nat.reduceBEq, Nat.reduceMul, Int.reduceLT, Int.reduceLE, Int.reduceEq, Int.reduceToNat, Int.reduceMul, Int.reduceNeg, Go.Proofs.Try.f173, eFs, List.length_map, neq_len hlen]
    | refine Sp2.f ?_ ?_
    | refine Spl.f ?_ ?_ <;> intro hb
    | refine qac rfl (fun b hb => ?_))
    rw [ybt hlen]
def sameT (l m : List Fld) : Bool := qb8 Fld.same l m
def ya6 (l m : List Fld) : Bool := zdt l && mayT m && qb8 Fld.fits l m
theorem c_Match (l m : List Fld) (hl : l.length ≤ 4294967296) (hm : m.length ≤ 4294967296) : Fn prog 164 [eFs l, eFs m] (.bool (ya6 l m)) := by
  refine run_164 rfl fun h => ?_
  repeat' (first
    | simp (implicitDefEqProofs := false) only [push_cast, reduceIte, reduceCtorEq, Nat.reduceAdd, Nat.reduceSub, Nat.reduceEqDiff, Nat.reduceLT, Nat.reduceLeDiff, Nat.reduceBEq, Nat.reduceMul, Int.reduceLT, Int.reduceLE, Int.reduceEq, Int.reduceToNat, Int.reduceMul, Int.reduceNeg, Go.Proofs.Try.f164, yak, qal, zak]
    | refine Sp2.f ?_ ?_
    | refine Spl.f ?_ ?_ <;> intro hb
    | refine qac rfl (fun b hb => ?_)
    | refine zat (qbo l hl) ?_
    | refine zat (yc9 m hm) ?_
    | refine zat (c_EqualFunc_Field l m Fld.fits hl hm c_fits) ?_)
  all_goals simp_all [ya6]
end Go.Abs
set_option linter.all false
set_option maxRecDepth 100000
set_option maxHeartbeats 0
namespace Go.Abs
open Go
open Go.Proofs.Try (prog)
structure Req where
  Client : Int
  Seq : Int
  Kind : Int
  P : List Fld
  T : List Fld
  Lease : Int
def eQ (x : Req) : AV := .agg 60 [.int .i64 x.Client, .int .i64 x.Seq, .int .i64 x.Kind, eFs x.P, eFs x.T, .int .i64 x.Lease]
theorem yaz (x : Req) : wk prog 6 60 (eQ x) = eQ x := by simp [eQ, eFs, zbq, qau, zbp, zbc, sh_60, fl_60]
theorem zay (x : Req) : tyB prog (eQ x) 60 = true := by simp [eQ, tyB]
theorem zaz (x : Req) : yah (eQ x) = true := rfl
theorem ycj (l : List Fld) : dat (eFs l) = true := ydy l
theorem eQ_dat (x : Req) : dat (eQ x) = true := by simp [eQ, yc3, zb4, zb8, zdz, ycj]
def opIn (k m : Int) : Bool := decide (1 ≤ k) && decide (k ≤ 8) && (bits .and .i64 (m.fdiv (2 ^ (min (IntKind.wrap .u64 k).toNat IntKind.i64.bits))) 1 == 1)
theorem c_opIn (k m : Int) : Fn prog 137 [.int .i64 k, .int .i64 m] (.bool (opIn k m)) := by
  refine run_137 rfl fun h => ?_
  repeat' (first
    | simp (implicitDefEqProofs := false) only [push_cast, reduceIte, reduceCtorEq, Nat.reduceAdd, Nat.reduceSub, Nat.reduceEqDiff, Nat.reduceLT, Nat.reduceLeDiff, Nat.reduceBEq, Nat.reduceMul, Int.reduceLT, Int.reduceLE, Int.reduceEq, Int.reduceToNat, Int.reduceMul, Int.reduceNeg, Go.Proofs.Try.f137]
    | refine Sp2.f ?_ ?_
    | refine Spl.f ?_ ?_ <;> intro hb
    | refine qac rfl (fun b hb => ?_))
  · have : 1 ≤ k := by simpa using ‹decide (1 ≤ k) = true›
    have : k ≤ 8 := by simpa using ‹decide (k ≤ 8) = true›
    rw [IntWalk.u64_in _ (by omega)]
    omega
  · simp_all [opIn]
  · have : ¬ k ≤ 8 := by simpa using ‹decide (k ≤ 8) = false›
    simp [opIn, this]
  · have : ¬ 1 ≤ k := by simpa using ‹decide (1 ≤ k) = false›
    simp [opIn, this]
def qb2 (k : Int) : Bool := opIn k 252
def zbv (k : Int) : Bool := opIn k 234
def putsK (k : Int) : Bool := opIn k 194
theorem c_Reads (k : Int) : Fn prog 139 [.int .i64 k] (.bool (qb2 k)) := by
  refine run_139 rfl fun h => ?_
  repeat' (first
    | simp (implicitDefEqProofs := false) only [push_cast, reduceIte, reduceCtorEq, Nat.reduceAdd, Nat.reduceSub, Nat.reduceEqDiff, Nat.reduceLT, Nat.reduceLeDiff, Nat.reduceBEq, Nat.reduceMul, Int.reduceLT, Int.reduceLE, Int.reduceEq, Int.reduceToNat, Int.reduceMul, Int.reduceNeg, Go.Proofs.Try.f139]
    | refine Sp2.f ?_ ?_
    | refine Spl.f ?_ ?_ <;> intro hb
    | refine qac rfl (fun b hb => ?_)
    | refine zat (c_opIn k _) ?_)
  all_goals rfl
theorem c_Writes (k : Int) : Fn prog 142 [.int .i64 k] (.bool (zbv k)) := by
  refine run_142 rfl fun h => ?_
  repeat' (first
    | simp (implicitDefEqProofs := false) only [push_cast, reduceIte, reduceCtorEq, Nat.reduceAdd, Nat.reduceSub, Nat.reduceEqDiff, Nat.reduceLT, Nat.reduceLeDiff, Nat.reduceBEq, Nat.reduceMul, Int.reduceLT, Int.reduceLE, Int.reduceEq, Int.reduceToNat, Int.reduceMul, Int.reduceNeg, Go.Proofs.Try.f142]
    | refine Sp2.f ?_ ?_
    | refine Spl.f ?_ ?_ <;> intro hb
    | refine qac rfl (fun b hb => ?_)
    | refine zat (c_opIn k _) ?_)
  all_goals rfl
structure Req.Small (x : Req) : Prop where
  P : x.P.length ≤ 4294967296
  T : x.T.length ≤ 4294967296
def zcp (x : Req) : Bool := decide (0 ≤ x.Client ∧ x.Client < 4 ∧ 1 ≤ x.Seq ∧ x.Seq ≤ 1073741824 ∧ 1 ≤ x.Kind ∧ x.Kind ≤ 8) &&
  ((if putsK x.Kind = true then mayT x.T && decide (0 ≤ x.Lease ∧ x.Lease ≤ 1099511627776) else decide (x.T = []) && decide (x.Lease = 0)) &&
   (if qb2 x.Kind = true then zdt x.P else decide (x.P = [])))
theorem len_nil {α : Type} (l : List α) : ((l.length : Int) == 0) = decide (l = []) := by cases l <;> simp; omega
theorem ydq (x : Req) (hx : x.Small) : Fn prog 106 [eQ x] (.bool (zcp x)) := by
  refine run_106 rfl fun h => ?_
  repeat' (first
    | simp (implicitDefEqProofs := false) only [push_cast, reduceIte, reduceCtorEq, Nat.reduceAdd, Nat.reduceSub, Nat.reduceEqDiff, Nat.reduceLT, Nat.reduceLeDiff, Nat.reduceBEq, Nat.reduceMul, Int.reduceLT, Int.reduceLE, Int.reduceEq, Int.reduceToNat, Int.reduceMul, Int.reduceNeg, Go.Proofs.Try.f106, eQ, eFs, List.length_map, len_nil]
    | refine Sp2.f ?_ ?_
    | refine Spl.f ?_ ?_ <;> intro hb
    | refine qac rfl (fun b hb => ?_)
    | refine zat (c_opIn _ _) ?_
    | refine zat (yc9 x.T hx.T) ?_
    | refine zat (c_Reads _) ?_
    | refine zat (qbo x.P hx.P) ?_)
  all_goals simp only [decide_eq_true_eq, decide_eq_false_iff_not, Int.not_lt, Int.not_le] at *
  all_goals first
    | (have e : ¬ (0 ≤ x.Client ∧ x.Client < 4 ∧ 1 ≤ x.Seq ∧ x.Seq ≤ 1073741824 ∧ 1 ≤ x.Kind ∧ x.Kind ≤ 8) := by omega
       simp only [zcp, e, decide_false, Bool.false_and]; done)
    | (have e : 0 ≤ x.Client ∧ x.Client < 4 ∧ 1 ≤ x.Seq ∧ x.Seq ≤ 1073741824 ∧ 1 ≤ x.Kind ∧ x.Kind ≤ 8 := by omega
       simp only [zcp, decide_eq_true e, Bool.true_and, qb2, putsK])
  all_goals (have hT : mayT [] = false := rfl; have hP : zdt [] = false := rfl)
  all_goals simp only [qb2] at *
  all_goals first
    | grind
    | skip
end Go.Abs
set_option linter.all false
set_option maxRecDepth 100000
set_option maxHeartbeats 0
namespace Go.Abs
open Go
open Go.Proofs.Try (prog)
theorem zav (l : List Fld) (hl : l.length ≤ 4294967296) : Fn prog 141 [eFs l] (eFs l) := by
  refine pure_wk (R := fun r => r = eFs l ∨ (l = [] ∧ r = .nils)) 24 ?_ (fun r hr => ?_)
  · refine run_141 rfl fun h => ?_
    repeat' (first
    | simp (implicitDefEqProofs := false) only [push_cast, reduceIte, reduceCtorEq, Nat.reduceAdd, Nat.reduceSub, Nat.reduceEqDiff, Nat.reduceLT, Nat.reduceLeDiff, Nat.reduceBEq, Nat.reduceMul, Int.reduceLT, Int.reduceLE, Int.reduceEq, Int.reduceToNat, Int.reduceMul, Int.reduceNeg, Go.Proofs.Try.f141, eFs, List.length_map]
    | refine Sp2.f ?_ ?_
    | refine Spl.f ?_ ?_ <;> intro hb
    | refine qac rfl (fun b hb => ?_))
    · rename_i hn
      have : l = [] := by
        cases b with
        | false => simp at hb
        | true =>
          by_cases hl : l = []
          · exact hl
          · simp [hl] at hn
      subst this
      exact res_mk rfl (.inr ⟨rfl, rfl⟩)
    · exact hl
    · have : l = [] := List.eq_nil_of_length_eq_zero (by omega)
      subst this
      exact res_win (e := ⟨160, [], .own⟩) (ys := []) (Nat.le_refl _) (by rw [yas]; rfl) rfl rfl rfl (.inl rfl)
    · exact res_win (e := ⟨160, l.map eF, .own⟩) (ys := l.map eF) (Nat.le_add_right _ _) (by rw [za8]; rfl) rfl (winGet_all (by simp)) (zal eF eF_dat l) (.inl rfl)
  · rcases hr with rfl | ⟨rfl, rfl⟩
    · exact ⟨yak l, zak l⟩
    · exact ⟨by rw [zbs, ydd]; rfl, by rw [zbb, ydd]; rfl⟩
end Go.Abs
set_option linter.all false
set_option maxRecDepth 100000
set_option maxHeartbeats 0
namespace Go.Abs
open Go
open Go.Proofs.Try (prog)
structure Itm where
  Owner : Int
  Until : Int
  T : List Fld
structure Wtr where
  Client : Int
  Seq : Int
  Take : Bool
  P : List Fld
structure Rpl where
  Client : Int
  Seq : Int
  Kind : Int
  T : List Fld
  Late : Bool
structure Spc where
  Now : Int
  Items : List Itm
  Waiters : List Wtr
  Read : Int
  Write : Int
  Last : List Rpl
def eI (x : Itm) : AV := .agg 87 [.int .i64 x.Owner, .int .i64 x.Until, eFs x.T]
def eIs (l : List Itm) : AV := .list 87 (l.map eI)
def eW (x : Wtr) : AV := .agg 89 [.int .i64 x.Client, .int .i64 x.Seq, .bool x.Take, eFs x.P]
def eWs (l : List Wtr) : AV := .list 89 (l.map eW)
def eR (x : Rpl) : AV := .agg 26 [.int .i64 x.Client, .int .i64 x.Seq, .int .i64 x.Kind, eFs x.T, .bool x.Late]
def eRs (l : List Rpl) : AV := .list 26 (l.map eR)
def eL (l : List Rpl) : AV := .agg 27 (l.map eR)
def eS (x : Spc) : AV := .agg 29 [.int .i64 x.Now, eIs x.Items, eWs x.Waiters, .int .i64 x.Read, .int .i64 x.Write, eL x.Last]
theorem eI_wk (x : Itm) : wk prog 6 87 (eI x) = eI x := by simp [eI, eFs, zbq, qau, zbp, zbc, sh_87, fl_87]
theorem eI_ty (x : Itm) : tyB prog (eI x) 87 = true := by simp [eI, tyB]
theorem eI_pl (x : Itm) : yah (eI x) = true := rfl
theorem ycd (x : Itm) : dat (eI x) = true := by simp [eI, yc3, zb4, zb8, zdz, ycj]
theorem eIs_dat (l : List Itm) : dat (eIs l) = true := by rw [eIs, qcj]; exact zal eI ycd l
theorem eW_wk (x : Wtr) : wk prog 6 89 (eW x) = eW x := by simp [eW, eFs, zbq, qau, zbp, wk_bool, zbc, sh_89, fl_89]
theorem eW_ty (x : Wtr) : tyB prog (eW x) 89 = true := by simp [eW, tyB]
theorem eW_pl (x : Wtr) : yah (eW x) = true := rfl
theorem eW_dat (x : Wtr) : dat (eW x) = true := by simp [eW, yc3, zb4, zb8, zdz, dat_bool, ycj]
theorem eWs_dat (l : List Wtr) : dat (eWs l) = true := by rw [eWs, qcj]; exact zal eW eW_dat l
theorem qb7 (n : Nat) (x : Rpl) : wk prog (n + 2) 26 (eR x) = eR x := by simp [eR, eFs, zbq, qau, zbp, wk_bool, zbc, sh_26, fl_26]
theorem zcm (x : Rpl) : tyB prog (eR x) 26 = true := by simp [eR, tyB]
theorem ycm (x : Rpl) : yah (eR x) = true := rfl
theorem zby (x : Rpl) : dat (eR x) = true := by simp [eR, yc3, zb4, zb8, zdz, dat_bool, ycj]
theorem eRs_dat (l : List Rpl) : dat (eRs l) = true := by rw [eRs, qcj]; exact zal eR zby l
theorem ydc (l : List Rpl) : dat (eL l) = true := by rw [eL, yc3]; exact zal eR zby l
theorem zcj (x : Spc) : dat (eS x) = true := by simp [eS, yc3, zb4, zb8, zdz, eIs_dat, eWs_dat, ydc]
theorem yaq (n : Nat) (l : List Rpl) : wk prog (n + 3) 27 (eL l) = eL l := by
  have : (wk prog (n + 2) 26) ∘ eR = eR := by funext x; exact qb7 n x
  simp [eL, zbq, wkAgg_arr, sh_27, this]
theorem yb3 (x : Spc) : wk prog 6 29 (eS x) = eS x := by
  have h := yaq 2 x.Last
  simp only [eS, eIs, eWs, zbq, qau, zbp, zbc, sh_29, fl_29, List.zipWith_cons_cons, List.zipWith_nil_left, if_true]
  rw [h]
theorem qbx (x : Spc) : tyB prog (eS x) 29 = true := by simp [eS, tyB]
theorem zcd (x : Spc) : yah (eS x) = true := rfl
def qar (c : Int) : Bool := decide (0 ≤ c) && decide (c < 4)
theorem c_client (c : Int) : Fn prog 116 [.int .i64 c] (.bool (qar c)) := by
  refine run_116 rfl fun h => ?_
  repeat' (first
    | simp (implicitDefEqProofs := false) only [push_cast, reduceIte, reduceCtorEq, Nat.reduceAdd, Nat.reduceSub, Nat.reduceEqDiff, Nat.reduceLT, Nat.reduceLeDiff, Nat.reduceBEq, Nat.reduceMul, Int.reduceLT, Int.reduceLE, Int.reduceEq, Int.reduceToNat, Int.reduceMul, Int.reduceNeg, Go.Proofs.Try.f116]
    | refine Sp2.f ?_ ?_
    | refine Spl.f ?_ ?_ <;> intro hb
    | refine qac rfl (fun b hb => ?_))
  all_goals grind [qar]
def mayI (x : Itm) (now : Int) : Bool := qar x.Owner && (decide (x.Until = 0) || (decide (now < x.Until) && decide (x.Until ≤ 2199023255552))) && mayT x.T
theorem c_mayItem (x : Itm) (now : Int) (hx : x.T.length ≤ 4294967296) : Fn prog 115 [eI x, .int .i64 now] (.bool (mayI x now)) := by
  refine run_115 rfl fun h => ?_
  repeat' (first
    | simp (implicitDefEqProofs := false) only [push_cast, reduceIte, reduceCtorEq, Nat.reduceAdd, Nat.reduceSub, Nat.reduceEqDiff, Nat.reduceLT, Nat.reduceLeDiff, Nat.reduceBEq, Nat.reduceMul, Int.reduceLT, Int.reduceLE, Int.reduceEq, Int.reduceToNat, Int.reduceMul, Int.reduceNeg, Go.Proofs.Try.f115, eI, eFs, List.length_map]
    | refine Sp2.f ?_ ?_
    | refine Spl.f ?_ ?_ <;> intro hb
    | refine qac rfl (fun b hb => ?_)
    | refine zat (c_client _) ?_
    | refine zat (yc9 x.T hx) ?_)
  all_goals grind [mayI]
def mayL (x : Rpl) (c : Int) : Bool := decide (x.Client = c) && decide (0 ≤ x.Seq ∧ x.Seq ≤ 1073741824) &&
  (if x.Seq = 0 then decide (x.Kind = 0) && decide (x.T = []) && !x.Late else if x.Kind = 2 then mayT x.T else decide (1 ≤ x.Kind ∧ x.Kind ≤ 6) && decide (x.T = []) && !x.Late)
theorem c_mayLast (x : Rpl) (c : Int) (hx : x.T.length ≤ 4294967296) : Fn prog 118 [eR x, .int .i64 c] (.bool (mayL x c)) := by
  refine run_118 rfl fun h => ?_
  repeat' (first
    | simp (implicitDefEqProofs := false) only [push_cast, reduceIte, reduceCtorEq, Nat.reduceAdd, Nat.reduceSub, Nat.reduceEqDiff, Nat.reduceLT, Nat.reduceLeDiff, Nat.reduceBEq, Nat.reduceMul, Int.reduceLT, Int.reduceLE, Int.reduceEq, Int.reduceToNat, Int.reduceMul, Int.reduceNeg, Go.Proofs.Try.f118, eR, eFs, List.length_map, len_nil]
    | refine Sp2.f ?_ ?_
    | refine Spl.f ?_ ?_ <;> intro hb
    | refine qac rfl (fun b hb => ?_)
    | refine zat (yc9 x.T hx) ?_)
  all_goals grind [mayL]
theorem c_Find1 (x : Itm) (p : List Fld) (hx : x.T.length ≤ 4294967296) (hp : p.length ≤ 4294967296) : Fn prog 163 [eI x, .eref 24 (eFs p)] (.bool (ya6 p x.T)) := by
  refine run_163 rfl fun h => ?_
  repeat' (first
    | simp (implicitDefEqProofs := false) only [push_cast, reduceIte, reduceCtorEq, Nat.reduceAdd, Nat.reduceSub, Nat.reduceEqDiff, Nat.reduceLT, Nat.reduceLeDiff, Nat.reduceBEq, Nat.reduceMul, Int.reduceLT, Int.reduceLE, Int.reduceEq, Int.reduceToNat, Int.reduceMul, Int.reduceNeg, Go.Proofs.Try.f163, eI, eFs, List.length_map]
    | refine Sp2.f ?_ ?_
    | refine Spl.f ?_ ?_ <;> intro hb
    | refine qac rfl (fun b hb => ?_)
    | refine zat (c_Match p x.T hp hx) ?_)
  all_goals rfl
end Go.Abs
set_option linter.all false
set_option maxRecDepth 100000
set_option maxHeartbeats 0
namespace Go.Abs
open Go
open Go.Proofs.Try (prog)
theorem ycs {α : Type} (e : α → AV) (l : List α) {g : FuncId} {caps : List AV} (p : α → Bool) (hl : l.length ≤ 4294967296) (hty : ∀ x, tyB prog (e x) 87 = true) (hpl : ∀ x, yah (e x) = true) (hwk : ∀ x, wk prog 6 87 (e x) = e x)
    (hp : ∀ x ∈ l, Fn prog g (e x :: caps) (.bool (p x))) (hy : isY caps = false := by rfl) : Fn prog 140 [.list 87 (l.map e), .fn g caps] (.int .i64 (fidx p l)) := by
  refine run_140 rfl fun h => ?_
  repeat' (first
    | simp (implicitDefEqProofs := false) only [push_cast, reduceIte, reduceCtorEq, Nat.reduceAdd, Nat.reduceSub, Nat.reduceEqDiff, Nat.reduceLT, Nat.reduceLeDiff, Nat.reduceBEq, Nat.reduceMul, Int.reduceLT, Int.reduceLE, Int.reduceEq, Int.reduceToNat, Int.reduceMul, Int.reduceNeg, Go.Proofs.Try.f140, hy, List.length_map]
    | refine Sp2.f ?_ ?_
    | refine Spl.f ?_ ?_ <;> intro hb
    | refine qac rfl (fun b hb => ?_))
  refine ya9 (fun i a => [(0, .list 87 (l.map e)), (1, .fn g caps), (4, .int .i64 0), (5, a 5), (7, .int .i64 l.length), (8, .int .i64 i), (9, a 9), (16, a 16)]) (fun _ _ => h) (fun i => i ≤ l.length ∧ ∀ j x, j < i → l[j]? = some x → p x = false) l.length (qa5 rfl ⟨[], rfl⟩ ⟨Nat.zero_le _, fun j x hj => by omega⟩) ?_
  rintro i a g' ⟨hi, hinv⟩
  refine ⟨hi, ?_⟩
  by_cases hlt : i < l.length
  · have hx : l[i]? = some l[i] := List.getElem?_eq_getElem hlt
    repeat' (first
    | simp (implicitDefEqProofs := false) only [push_cast, reduceIte, reduceCtorEq, Nat.reduceAdd, Nat.reduceSub, Nat.reduceEqDiff, Nat.reduceLT, Nat.reduceLeDiff, Nat.reduceBEq, Nat.reduceMul, Int.reduceLT, Int.reduceLE, Int.reduceEq, Int.reduceToNat, Int.reduceMul, Int.reduceNeg, Go.Proofs.Try.f140, hy, List.length_map, yaj hlt, qaj hlt, zai e hx, Int.toNat_natCast, hty, hpl, hwk, qaf (show i < 9223372036854775807 by omega)]
    | refine Sp2.f ?_ ?_
    | refine Spl.f ?_ ?_ <;> intro hb
    | refine qac rfl (fun b hb => ?_)
    | refine zat (hp _ (List.getElem_mem hlt)) ?_
    | refine qa5 ?_ ⟨[], rfl⟩ ?_)
    · rw [ydo hx ‹_› hinv]
    · exact ⟨hlt, yco hx ‹_› hinv⟩
  · repeat' (first
    | simp (implicitDefEqProofs := false) only [push_cast, reduceIte, reduceCtorEq, Nat.reduceAdd, Nat.reduceSub, Nat.reduceEqDiff, Nat.reduceLT, Nat.reduceLeDiff, Nat.reduceBEq, Nat.reduceMul, Int.reduceLT, Int.reduceLE, Int.reduceEq, Int.reduceToNat, Int.reduceMul, Int.reduceNeg, Go.Proofs.Try.f140, hy, List.length_map, yal hlt]
    | refine Sp2.f ?_ ?_
    | refine Spl.f ?_ ?_ <;> intro hb
    | refine qac rfl (fun b hb => ?_))
    rw [qdo fun j y hj hy => hinv j y (by omega) hy]
def smallI (l : List Itm) : Prop := l.length ≤ 4294967296 ∧ ∀ x ∈ l, x.T.length ≤ 4294967296
def smallW (l : List Wtr) : Prop := l.length ≤ 4294967296 ∧ ∀ x ∈ l, x.P.length ≤ 4294967296
def smallR (l : List Rpl) : Prop := l.length ≤ 4294967296 ∧ ∀ x ∈ l, x.T.length ≤ 4294967296
structure Spc.Small (s : Spc) : Prop where
  items : smallI s.Items
  waiters : smallW s.Waiters
  last : smallR s.Last
  four : s.Last.length = 4
def za6 (s : Spc) (p : List Fld) : Int := fidx (fun x => ya6 p x.T) s.Items
theorem c_Find (s : Spc) (p : List Fld) (hs : smallI s.Items) (hp : p.length ≤ 4294967296) : Fn prog 146 [eS s, eFs p] (.int .i64 (za6 s p)) := by
  refine run_146 rfl fun h => ?_
  repeat' (first
    | simp (implicitDefEqProofs := false) only [push_cast, reduceIte, reduceCtorEq, Nat.reduceAdd, Nat.reduceSub, Nat.reduceEqDiff, Nat.reduceLT, Nat.reduceLeDiff, Nat.reduceBEq, Nat.reduceMul, Int.reduceLT, Int.reduceLE, Int.reduceEq, Int.reduceToNat, Int.reduceMul, Int.reduceNeg, Go.Proofs.Try.f146, eS, eFs, eIs, List.length_map]
    | refine Sp2.f ?_ ?_
    | refine Spl.f ?_ ?_ <;> intro hb
    | refine qac rfl (fun b hb => ?_)
    | refine ycp wfp (args' := [.list 87 (s.Items.map eI), .fn 163 [.eref 24 (eFs p)]]) ?_ (ycs eI s.Items (fun x => ya6 p x.T) hs.1 eI_ty eI_pl eI_wk fun x hx => c_Find1 x p (hs.2 x hx) hp) ?_ rfl ?_)
  · simp only [List.map_cons, List.map_nil, qcd _ 8 (show dat (.list 87 (s.Items.map eI)) = true from eIs_dat s.Items), bw_fnE, bw_refE, yas, za8, List.getElem?_cons_zero, List.getElem?_cons_succ, qc4, getE, za7, qce, qcd _ 6 (ydy p)]
  · simp only [List.all_cons, List.all_nil, qam, zaq, yaw _ (zal eI ycd s.Items), yaw _ (zal eF eF_dat p), eFs, Bool.and_self]
  all_goals rfl
def rp0 (c : Int) : AV := .agg 26 [.int .i64 c, .int .i64 0, .int .i64 0, .nils, .bool false]
def lst (i : Nat) : List AV := [rp0 0, rp0 (if 1 < i then 1 else 0), rp0 (if 2 < i then 2 else 0), rp0 (if 3 < i then 3 else 0)]
def newS (r w : Int) : Spc := ⟨0, [], [], bits .and .i64 r 15, bits .and .i64 w 15, [⟨0, 0, 0, [], false⟩, ⟨1, 0, 0, [], false⟩, ⟨2, 0, 0, [], false⟩, ⟨3, 0, 0, [], false⟩]⟩
def spcN (r w : Int) (i : Nat) : AV := .agg 29 [.int .i64 0, .nils, .nils, .int .i64 (bits .and .i64 r 15), .int .i64 (bits .and .i64 w 15), .agg 27 (lst i)]
end Go.Abs
