/- To: a part of the proofs about the tuple space (layer 8). -/
import Derived.Test.YtelohjfiojpeeaaRf1
set_option linter.all false
set_option maxRecDepth 100000
set_option maxHeartbeats 0
namespace Go.Abs
open Go
open Go.Proofs.Try (prog)
/-! ### told -/
theorem bz_dat {h : List Entry} : ∀ (n : Nat) (a : AV), dat a = true → bz h n a = a
  | 0, a, _ => rfl
  | n + 1, a, hd => by
    cases a <;> simp only [bz] <;> try rfl
    case agg T vs =>
      rw [dat_agg] at hd
      congr 1
      have : ∀ l : List AV, datL l = true → l.map (bz h n) = l := by
        intro l
        induction l with
        | nil => intro _; rfl
        | cons a l ih =>
          intro hl
          rw [datL_cons, Bool.and_eq_true] at hl
          rw [List.map_cons, bz_dat n a hl.1, ih hl.2]
      exact this vs hd
    case win => simp [dat] at hd
theorem bz_aggE (h : List Entry) (n : Nat) (T : TypeId) (vs : List AV) : bz h (n + 1) (.agg T vs) = .agg T (vs.map (bz h n)) := rfl
theorem bz_winE (h : List Entry) (n k : Nat) (p : List Nat) (T : TypeId) (fr m lo : Nat) : bz h (n + 1) (.win k p T fr m lo) = bzWin T p fr m (.win k p T fr m lo) h[k]? := rfl
theorem bz_intE (h : List Entry) (n : Nat) (k : IntKind) (x : Int) : bz h (n + 1) (.int k x) = .int k x := rfl
theorem bz_listE (h : List Entry) (n : Nat) (T : TypeId) (l : List AV) : bz h (n + 1) (.list T l) = .list T l := rfl
theorem bzWin_fz (T U : TypeId) (fr m : Nat) (a : AV) (es : List AV) : bzWin T [] fr m a (some ⟨U, es, .fz⟩) = if fr + m ≤ es.length then .list T ((es.drop fr).take m) else a := by
  simp only [bzWin, if_true, winGet]
  by_cases hc : fr + m ≤ es.length
  · simp only [if_pos hc]
  · simp only [if_neg hc]
def pAny : List Fld := [⟨5, 0, ByteArray.empty⟩]
def tFour : List Fld := [⟨1, 4, ByteArray.empty⟩]
def S1 : Spc := ⟨1, [], [⟨0, 1, true, pAny⟩], 15, 15, [⟨0, 1, 4, [], false⟩, ⟨1, 0, 0, [], false⟩, ⟨2, 0, 0, [], false⟩, ⟨3, 0, 0, [], false⟩]⟩
def S2 : Spc := ⟨2, [], [], 15, 15, [⟨0, 1, 2, tFour, true⟩, ⟨1, 1, 1, [], false⟩, ⟨2, 0, 0, [], false⟩, ⟨3, 0, 0, [], false⟩]⟩
def S3 : Spc := ⟨3, [], [], 15, 15, [⟨0, 1, 2, tFour, true⟩, ⟨1, 1, 1, [], false⟩, ⟨2, 0, 0, [], false⟩, ⟨3, 0, 0, [], false⟩]⟩
theorem told1D : doS (newS 15 15) 1 ⟨0, 1, 5, pAny, [], 0⟩ = (S1, [⟨0, 1, 4, [], false⟩]) := by kernel_rfl
theorem told2D : doS S1 2 ⟨1, 1, 1, [], tFour, 9⟩ = (S2, [⟨1, 1, 1, [], false⟩, ⟨0, 1, 2, tFour, true⟩]) := by kernel_rfl
theorem told3D : doS S2 3 ⟨0, 1, 5, pAny, [], 0⟩ = (S3, [⟨0, 1, 2, tFour, true⟩]) := by kernel_rfl
theorem told4D : mayS (newS 15 15) = true := by kernel_rfl
theorem told5D : findS S2 pAny = -1 := by kernel_rfl
theorem newS_small (r w : Int) : (newS r w).Small := ⟨⟨by simp [newS], by simp [newS]⟩, ⟨by simp [newS], by simp [newS]⟩, ⟨by simp [newS], by simp [newS]⟩, rfl⟩
theorem S1_small : S1.Small := ⟨⟨by simp [S1], by simp [S1]⟩, ⟨by simp [S1], by simp [S1, pAny]⟩, ⟨by simp [S1], by simp [S1]⟩, rfl⟩
theorem S2_small : S2.Small := ⟨⟨by simp [S2], by simp [S2]⟩, ⟨by simp [S2], by simp [S2]⟩, ⟨by simp [S2], by simp [S2, tFour]⟩, rfl⟩
theorem cast1 : ((1 : Nat) : Int) = 1 := rfl
theorem cast2 : ((2 : Nat) : Int) = 2 := rfl
theorem cast0 : ((0 : Nat) : Int) = 0 := rfl
theorem gS21 : getP (eS S2) [1] = some (.list 74 []) := rfl
theorem gS22 : getP (eS S2) [2] = some (.list 50 []) := rfl
theorem gS30 : getP (eS S3) [0] = some (.int .i64 3) := rfl
theorem c_told : Fn prog 15 [] (.bool true) := by
  have d1 := c_Do (newS 15 15) 1 ⟨0, 1, 5, pAny, [], 0⟩ (newS_small 15 15) ⟨by simp [pAny], by simp⟩
  rw [told1D] at d1
  have d2 := c_Do S1 2 ⟨1, 1, 1, [], tFour, 9⟩ S1_small ⟨by simp, by simp [tFour]⟩
  rw [told2D] at d2
  have d3 := c_Do S2 3 ⟨0, 1, 5, pAny, [], 0⟩ S2_small ⟨by simp [pAny], by simp⟩
  rw [told3D] at d3
  refine run_15 rfl fun h => ?_
  repeat' (first
    | simp (implicitDefEqProofs := false) only [push_cast, reduceIte, reduceCtorEq, Nat.reduceAdd, Nat.reduceSub, Nat.reduceEqDiff, Nat.reduceLT, Nat.reduceLeDiff, Nat.reduceBEq, Nat.reduceMul, Int.reduceLT, Int.reduceLE, Int.reduceEq, Int.reduceToNat, Int.reduceMul, Int.reduceNeg, Go.Proofs.Try.f15, eS_ty, eS_pl, eS_wk, ap_lo, st_lo, st_ne, st_eq, len_st, st_st, sst, at_set, at_set0, at_set2, at_set20, sst2, List.replicate_succ, List.drop_zero]
    | refine Sp2.f ?_ ?_
    | refine Spl.f ?_ ?_ <;> intro hb
    | refine rq_mk rfl (fun b hb => ?_)
    | refine k_fn (c_New 15 15) ?_)
  refine k_give wfp (k := h.length + 1) (e := ⟨25, [eF ⟨5, 0, ByteArray.empty⟩], .own⟩) (get_at h _ 1) rfl (by simp) ?_ d1 ?_
  · simp only [List.map_cons, List.map_nil, bz_dat 4 _ (eS_dat _), bz_aggE, bz_winE, bz_intE, bz_listE, set_at, get_at, fzE, List.set_cons_succ, List.set_cons_zero, List.getElem?_cons_succ, List.getElem?_cons_zero, bzWin_fz, List.length_cons, List.length_nil, Nat.zero_add, Nat.le_refl, if_true, List.drop_zero, List.take_succ_cons, List.take_zero]
    rfl
  repeat' (first
    | simp (implicitDefEqProofs := false) only [push_cast, reduceIte, reduceCtorEq, Nat.reduceAdd, Nat.reduceSub, Nat.reduceEqDiff, Nat.reduceLT, Nat.reduceLeDiff, Nat.reduceBEq, Nat.reduceMul, Int.reduceLT, Int.reduceLE, Int.reduceEq, Int.reduceToNat, Int.reduceMul, Int.reduceNeg, Go.Proofs.Try.f15, eS_ty, eS_pl, eS_wk, fzE, eF, ap_lo, st_lo, st_ne, st_eq, len_st, st_st, sst, at_set, at_set0, at_set2, at_set20, sst2, List.replicate_succ, List.drop_zero]
    | refine Sp2.f ?_ ?_
    | refine Spl.f ?_ ?_ <;> intro hb
    | refine rq_mk rfl (fun b hb => ?_))
  refine k_give wfp (k := h.length + 2) (e := ⟨25, [eF ⟨1, 4, ByteArray.empty⟩], .own⟩) (get_at h _ 2) rfl (by simp) ?_ d2 ?_
  · simp only [List.map_cons, List.map_nil, bz_dat 4 _ (eS_dat _), bz_aggE, bz_winE, bz_intE, bz_listE, set_at, get_at, fzE, List.set_cons_succ, List.set_cons_zero, List.getElem?_cons_succ, List.getElem?_cons_zero, bzWin_fz, List.length_cons, List.length_nil, Nat.zero_add, Nat.le_refl, if_true, List.drop_zero, List.take_succ_cons, List.take_zero]
    rfl
  repeat' (first
    | simp (implicitDefEqProofs := false) only [push_cast, reduceIte, reduceCtorEq, Nat.reduceAdd, Nat.reduceSub, Nat.reduceEqDiff, Nat.reduceLT, Nat.reduceLeDiff, Nat.reduceBEq, Nat.reduceMul, Int.reduceLT, Int.reduceLE, Int.reduceEq, Int.reduceToNat, Int.reduceMul, Int.reduceNeg, Go.Proofs.Try.f15, eS_ty, eS_pl, eS_wk, fzE, eF, ap_lo, st_lo, st_ne, st_eq, len_st, st_st, sst, at_set, at_set0, at_set2, at_set20, sst2, List.replicate_succ, List.drop_zero]
    | refine Sp2.f ?_ ?_
    | refine Spl.f ?_ ?_ <;> intro hb
    | refine rq_mk rfl (fun b hb => ?_))
  refine k_read wfp ?_ d3 ?_
  · simp only [List.map_cons, List.map_nil, bz_dat 4 _ (eS_dat _), bz_aggE, bz_winE, bz_intE, bz_listE, set_at, get_at, fzE, List.set_cons_succ, List.set_cons_zero, List.getElem?_cons_succ, List.getElem?_cons_zero, bzWin_fz, List.length_cons, List.length_nil, Nat.zero_add, Nat.le_refl, if_true, List.drop_zero, List.take_succ_cons, List.take_zero]
    rfl
  have hm := c_sMay (newS 15 15) (newS_small 15 15)
  rw [told4D] at hm
  have hfi := c_Find S2 pAny S2_small.items (by simp [pAny])
  rw [told5D] at hfi
  repeat' (first
    | simp (implicitDefEqProofs := false) only [push_cast, reduceIte, reduceCtorEq, Nat.reduceAdd, Nat.reduceSub, Nat.reduceEqDiff, Nat.reduceLT, Nat.reduceLeDiff, Nat.reduceBEq, Nat.reduceMul, Int.reduceLT, Int.reduceLE, Int.reduceEq, Int.reduceToNat, Int.reduceMul, Int.reduceNeg, Go.Proofs.Try.f15, eS_ty, eS_pl, eS_wk, eRs, eR, List.getD_cons_zero, List.getD_cons_succ, List.map_cons, List.map_nil, Int.reduceBEq, List.append_eq, cast0, cast1, cast2, gS21, gS22, gS30, ap_lo, st_lo, st_ne, st_eq, len_st, st_st, sst, at_set, at_set0, at_set2, at_set20, sst2, List.replicate_succ, List.drop_zero]
    | refine Sp2.f ?_ ?_
    | refine Spl.f ?_ ?_ <;> intro hb
    | refine rq_mk rfl (fun b hb => ?_)
    | refine k_fn hm ?_)
  refine k_read wfp ?_ hfi ?_
  · simp only [List.map_cons, List.map_nil, bz_dat 4 _ (eS_dat _), bz_aggE, bz_winE, bz_intE, bz_listE, set_at, get_at, fzE, List.set_cons_succ, List.set_cons_zero, List.getElem?_cons_succ, List.getElem?_cons_zero, bzWin_fz, List.length_cons, List.length_nil, Nat.zero_add, Nat.le_refl, if_true, List.drop_zero, List.take_succ_cons, List.take_zero]
    rfl
  repeat' (first
    | simp (implicitDefEqProofs := false) only [push_cast, reduceIte, reduceCtorEq, Nat.reduceAdd, Nat.reduceSub, Nat.reduceEqDiff, Nat.reduceLT, Nat.reduceLeDiff, Nat.reduceBEq, Nat.reduceMul, Int.reduceLT, Int.reduceLE, Int.reduceEq, Int.reduceToNat, Int.reduceMul, Int.reduceNeg, Go.Proofs.Try.f15, Int.reduceBEq, ap_lo, st_lo, st_ne, st_eq, len_st, st_st, sst, at_set, at_set0, at_set2, at_set20, sst2, List.replicate_succ, List.drop_zero]
    | refine Sp2.f ?_ ?_
    | refine Spl.f ?_ ?_ <;> intro hb
    | refine rq_mk rfl (fun b hb => ?_))


end Go.Abs
