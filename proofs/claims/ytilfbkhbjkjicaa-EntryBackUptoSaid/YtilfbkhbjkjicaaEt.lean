/- Et: a part of the proofs about the tuple space and its bytes. -/
import Derived.Test.YtilfbkhbjkjicaaEx
import Derived.Test.YtilfbkhbjkjicaaEa
import Derived.Test.YtilfbkhbjkjicaaGw
import Derived.Test.YtilfbkhbjkjicaaN6
set_option linter.all false
set_option maxRecDepth 100000
set_option maxHeartbeats 0
namespace Go.Abs
open Go
open Go.Proofs.Try (prog)
/-! ### chirographlaw11.told -/
def R11 : Req := ⟨0, 1, 8, [], [], 0⟩
def E11 : Ent := ⟨5, [R11]⟩
def S11 : Spc := (applyE (newS 15 15) E11).1
theorem t11a : applyE (newS 15 15) E11 = (S11, [⟨0, 1, 1, [], false⟩], 0) := by kernel_rfl
theorem t11b : S11.Now = 5 := by kernel_rfl
theorem t11c : (applyE S11 ⟨4, [R11]⟩).2.2 = 7 := by kernel_rfl
theorem t11d : (applyE (newS 15 15) zE).2.2 = 1 := by kernel_rfl
theorem t11e : mayE E11 = true := by kernel_rfl
theorem t11f : mayE zE = false := by kernel_rfl
theorem R11_small : R11.Small := ⟨by simp [R11], by simp [R11]⟩
theorem E11_small : E11.Small := ⟨by simp [E11], fun x hx => by rw [List.mem_singleton.1 hx]; exact R11_small⟩
theorem E4_small : (⟨4, [R11]⟩ : Ent).Small := ⟨by simp, fun x hx => by rw [List.mem_singleton.1 hx]; exact R11_small⟩
theorem zE_small : zE.Small := ⟨by simp [zE], fun x hx => by simp [zE] at hx⟩
theorem E11_in : E11.In := fun x hx => by rw [List.mem_singleton.1 hx]; exact ⟨by simp [R11], by simp [R11]⟩
theorem newS_small11 (r w : Int) : (newS r w).Small := ⟨⟨by simp [newS], by simp [newS]⟩, ⟨by simp [newS], by simp [newS]⟩, ⟨by simp [newS], by simp [newS]⟩, rfl⟩
theorem S11_small : S11.Small := by
  have e : S11 = (doN E11 (newS 15 15) 1).1 := by rw [S11, applyE, if_pos ⟨(by kernel_rfl : mayS (newS 15 15) = true), t11e⟩, if_neg (by decide)]; rfl
  rw [e]
  exact (doN_small E11 (newS 15 15) (newS_small11 ..) E11_small 1 (Nat.le_refl _)).1
def rq11 : AV := .agg 60 [.int .i64 0, .int .i64 1, .int .i64 8, .nils, .nils, .int .i64 0]
theorem wkd_0 (T : TypeId) (a : AV) : wkd prog 0 T a = a := rfl
theorem w11 {g : FuncId} {r : AV} {H : List Entry} {k : Nat} (hk : H[k]? = some ⟨60, [rq11], .fz⟩) (n : Int) (hp : Fn prog g [eE ⟨n, [R11]⟩] r) : FSpec prog g [.agg 49 [.int .i64 n, .win k [] 60 0 1 1]] H fun r' h' => r' = r ∧ h' = H := by
  refine FSpec.readw wfp 3 [(6, 49)] (args1 := [.agg 49 [.int .i64 n, .list 60 [rq11]]]) ?_ ?_ ?_ hp
  · simp [Go.Abs.bzd, bzdWin, hk, winGet, rq11]
  · exact ⟨by simp [tyB], trivial⟩
  · simp only [wkds, wkd_aggE, wkdAgg_struct, wkd_int, wkd_list, wkd_nils, wkNil_slice, rq11, sh_49, fl_49, sh_60, fl_60, sh_24, List.zipWith_cons_cons, List.zipWith_nil_left, if_true, List.map_cons, List.map_nil]
    rfl
theorem w11s {g : FuncId} {r : AV} {H : List Entry} {k : Nat} (hk : H[k]? = some ⟨60, [rq11], .fz⟩) (s : Spc) (n : Int) (hp : Fn prog g [eS s, eE ⟨n, [R11]⟩] r) : FSpec prog g [eS s, .agg 49 [.int .i64 n, .win k [] 60 0 1 1]] H fun r' h' => r' = r ∧ h' = H := by
  refine FSpec.readw wfp 3 [(0, 29), (6, 49)] (args1 := [eS s, .agg 49 [.int .i64 n, .list 60 [rq11]]]) ?_ ?_ ?_ hp
  · rw [List.map_cons, bzd_datw 3 _ (eS_dat s)]
    simp [Go.Abs.bzd, bzdWin, hk, winGet, rq11]
  · exact ⟨eS_ty s, by simp [tyB], trivial⟩
  · simp only [wkds, wkd_0, wkd_aggE, wkdAgg_struct, wkd_int, wkd_list, wkd_nils, wkNil_slice, rq11, sh_49, fl_49, sh_60, fl_60, sh_24, List.zipWith_cons_cons, List.zipWith_nil_left, if_true, List.map_cons, List.map_nil]
    rfl
theorem k_frz11 {g : FuncId} {args raw : List AV} {d : Option Tmp} {s : List Ctl} {env : Env} {h : List Entry} {Q : APost} {k : Nat} {T : TypeId} {es : List AV} (hk : h[k]? = some ⟨T, es, .own⟩) (hne : es ≠ []) (hr : Rk prog g args raw d s env (h.set k ⟨T, es, .fz⟩) Q) : Rk prog g args raw d s env h Q :=
  hr.imp (FSpec.freeze wfp hk rfl hne) (FSpec.freeze wfp hk rfl hne)
theorem c_told11 : Fn prog 27 [] (.bool true) := by
  refine run_27 rfl fun h => ?_
  repeat' (first
    | simp (implicitDefEqProofs := false) only [push_cast, reduceIte, reduceCtorEq, Nat.reduceAdd, Nat.reduceSub, Nat.reduceEqDiff, Nat.reduceLT, Nat.reduceLeDiff, Nat.reduceBEq, Nat.reduceMul, Int.reduceLT, Int.reduceLE, Int.reduceEq, Int.reduceToNat, Int.reduceMul, Int.reduceNeg, Go.Proofs.Try.f27, ap_lo, st_lo, st_ne, st_eq, len_st, st_st, sst, at_set, at_set0, at_set2, List.replicate_succ, List.drop_zero]
    | refine Sp2.f ?_ ?_
    | refine Spl.f ?_ ?_ <;> intro hb
    | refine rq_mk rfl (fun b hb => ?_))
  refine k_frz11 (k := h.length) (T := 60) (es := [rq11]) (get_at0 ..) (by simp) ?_
  have hs0 : (h ++ [(⟨60, [rq11], .own⟩ : Entry), ⟨49, [.agg 49 [.int .i64 5, .win h.length [] 60 0 1 1]], .own⟩]).set h.length ⟨60, [rq11], .fz⟩ = h ++ [(⟨60, [rq11], .fz⟩ : Entry), ⟨49, [.agg 49 [.int .i64 5, .win h.length [] 60 0 1 1]], .own⟩] := by
    rw [set_at0]; rfl
  have hs1 : (h ++ [(⟨60, [.agg 60 [.int .i64 0, .int .i64 1, .int .i64 8, .nils, .nils, .int .i64 0]], .own⟩ : Entry), ⟨49, [.agg 49 [.int .i64 5, .win h.length [] 60 0 1 1]], .own⟩]).set h.length ⟨60, [rq11], .fz⟩ = h ++ [(⟨60, [rq11], .fz⟩ : Entry), ⟨49, [.agg 49 [.int .i64 5, .win h.length [] 60 0 1 1]], .own⟩] := hs0
  rw [hs1]
  have p1 := c_ePut E11 E11_small
  rw [t11e] at p1
  have hk : ∀ l : List Entry, (h ++ (⟨60, [rq11], .fz⟩ : Entry) :: l)[h.length]? = some ⟨60, [rq11], .fz⟩ := fun l => get_at0 ..
  have e00 : ((0 : Int) == 0) = true := rfl
  have hgB : (putE E11).length ≤ 900000 := by
    have := fm_len (fun x => textB (putQ x)) 604 textQ_len E11.List
    simp only [putE, nb, List.length_append, beN_len]
    have : E11.List.length = 1 := rfl
    omega
  have g1 := c_eGet (putE E11) hgB
  rw [getEn_put t11e E11_in] at g1
  refine k_det (w11 (hk _) 5 p1) ?_
  generalize putE E11 = B at g1
  have n1 := c_New6 15 15
  have a1 := c_eApply (newS 15 15) E11 (newS_small11 ..) E11_small
  rw [t11a] at a1
  have a2 := c_eApply S11 ⟨4, [R11]⟩ S11_small E4_small
  rw [t11c] at a2
  have a3 := c_eApply (newS 15 15) zE (newS_small11 ..) zE_small
  rw [t11d] at a3
  have hN := t11b
  have gN : getP (eS S11) [0] = some (.int .i64 S11.Now) := rfl
  rw [hN] at gN
  generalize applyE S11 ⟨4, [R11]⟩ = A2 at a2
  generalize applyE (newS 15 15) zE = A3 at a3
  generalize newS 15 15 = S0 at n1 a1 a3
  generalize S11 = S1 at a1 a2 gN
  have m1 := c_eMay E11 E11_small
  rw [t11e] at m1
  have m2 := c_eMay zE zE_small
  rw [t11f] at m2
  have gE0 : getP (eE E11) [0] = some (.int .i64 5) := rfl
  have gE1 : getP (eE E11) [1] = some (.list 60 [eQ R11]) := rfl
  have e11 : ((1 : Int) == 1) = true := rfl
  have e55 : ((5 : Int) == 5) = true := rfl
  have e77 : ((7 : Int) == 7) = true := rfl
  have hEL : eRs [⟨0, 1, 1, [], false⟩] = .list 26 [eR ⟨0, 1, 1, [], false⟩] := rfl
  have gR2 : getP (eR ⟨0, 1, 1, [], false⟩) [2] = some (.int .i64 1) := rfl
  have hER : eR ⟨0, 1, 1, [], false⟩ = .agg 26 [.int .i64 0, .int .i64 1, .int .i64 1, eFs [], .bool false] := rfl
  rw [hEL] at a1
  rw [hER] at a1
  have e01 : ((0 : Int) + 1 == 1) = true := rfl
  have h01 : ((0 : Int) < 0 + 1) = True := by simp
  repeat' (first
    | simp (implicitDefEqProofs := false) only [push_cast, reduceIte, reduceCtorEq, Nat.reduceAdd, Nat.reduceSub, Nat.reduceEqDiff, Nat.reduceLT, Nat.reduceLeDiff, Nat.reduceBEq, Nat.reduceMul, Int.reduceLT, Int.reduceLE, Int.reduceEq, Int.reduceToNat, Int.reduceMul, Int.reduceNeg, Go.Proofs.Try.f27, e00, e11, e55, e77, gE0, gE1, gN, e01, h01, List.getD_cons_zero, eE_ty, eE_pl, eE_wk, eS_ty, eS_pl, eS_wk, eBs_ty, eBs_pl, eBs_wk, eRs_ty, eRs_pl, eRs_wk, ap_lo, st_lo, st_ne, st_eq, len_st, st_st, sst, at_set, at_set0, at_set2, List.replicate_succ, List.drop_zero]
    | refine Sp2.f ?_ ?_
    | refine Spl.f ?_ ?_ <;> intro hb
    | refine rq_mk rfl (fun b hb => ?_)
    | refine k_fn g1 ?_
    | refine k_fn n1 ?_
    | refine k_det (w11s (hk _) S0 5 a1) ?_
    | refine k_det (w11s (hk _) S1 4 a2) ?_
    | refine k_fn a3 ?_
    | refine k_det (w11 (hk _) 5 m1) ?_
    | refine k_fn m2 ?_)

end Go.Abs
