/- Gs: a part of the proofs about the tuple space and its bytes. -/
import Derived.Test.YtilfbkhbjkjicaaGp
set_option linter.all false
set_option maxRecDepth 100000
set_option maxHeartbeats 0
namespace Go.Abs
open Go
open Go.Proofs.Try (prog)
/-! ### genesis.Same, Anchor, First -/
theorem c_EqualFunc_Bs {α : Type} (e : α → AV) (l m : List α) {g : FuncId} (p : α → α → Bool) (hl : l.length ≤ 4294967296) (hm : m.length ≤ 4294967296) (hty : ∀ x, tyB prog (e x) 30 = true) (hpl : ∀ x, plainAV (e x) = true) (hwk : ∀ x, wk prog 6 30 (e x) = e x)
    (hp : ∀ x ∈ l, ∀ y ∈ m, Fn prog g [e x, e y] (.bool (p x y))) : Fn prog 103 [.list 30 (l.map e), .list 30 (m.map e), .fn g []] (.bool (all2 p l m)) := by
  refine run_103 rfl fun h => ?_
  by_cases hlen : l.length = m.length
  · repeat' (first
    | simp (implicitDefEqProofs := false) only [push_cast, reduceIte, reduceCtorEq, Nat.reduceAdd, Nat.reduceSub, Nat.reduceEqDiff, Nat.reduceLT, Nat.reduceLeDiff, Nat.reduceBEq, Nat.reduceMul, Int.reduceLT, Int.reduceLE, Int.reduceEq, Int.reduceToNat, Int.reduceMul, Int.reduceNeg, Go.Proofs.Try.f103, List.length_map, eq_len hlen]
    | refine Sp2.f ?_ ?_
    | refine Spl.f ?_ ?_ <;> intro hb
    | refine rq_mk rfl (fun b hb => ?_))
    refine rl_count (fun i a => [(0, .list 30 (l.map e)), (1, .list 30 (m.map e)), (2, .fn g []), (6, .bool false), (7, a 7), (8, a 8), (9, a 9), (14, a 14), (15, .list 30 (l.map e)), (16, .int .i64 l.length), (17, .int .i64 i), (18, a 18), (30, a 30)]) (fun _ g => h ++ g) (fun i => i ≤ l.length ∧ ∀ j x y, j < i → l[j]? = some x → m[j]? = some y → p x y = true) l.length (li_mk rfl ⟨[], (List.append_nil h).symm⟩ ⟨Nat.zero_le _, fun j x y hj => by omega⟩) ?_
    rintro i a g' ⟨hi, hinv⟩
    refine ⟨hi, ?_⟩
    by_cases hlt : i < l.length
    · have hlt' : i < m.length := by omega
      have hx : l[i]? = some l[i] := List.getElem?_eq_getElem hlt
      have hy : m[i]? = some m[i] := List.getElem?_eq_getElem hlt'
      have hi9 : i < 9223372036854775807 := by omega
      repeat' (first
    | simp (implicitDefEqProofs := false) only [push_cast, reduceIte, reduceCtorEq, Nat.reduceAdd, Nat.reduceSub, Nat.reduceEqDiff, Nat.reduceLT, Nat.reduceLeDiff, Nat.reduceBEq, Nat.reduceMul, Int.reduceLT, Int.reduceLE, Int.reduceEq, Int.reduceToNat, Int.reduceMul, Int.reduceNeg, Go.Proofs.Try.f103, hty, hwk, hpl, List.length_map, cast_lt hlt, in_row hlt, in_row hlt', getD_map e hx, getD_map e hy, Int.toNat_natCast, wrap_succ hi9]
    | refine Sp2.f ?_ ?_
    | refine Spl.f ?_ ?_ <;> intro hb
    | refine rq_mk rfl (fun b hb => ?_)
    | refine k_fn (hp l[i] (List.getElem_mem hlt) m[i] (List.getElem_mem hlt')) ?_
    | refine li_mk ?_ ⟨_, rfl⟩ ?_)
      · rw [all2_false hx hy (by simpa using ‹(!p l[i] m[i]) = true›)]
      · exact ⟨hlt, none_before2 hx hy (by simpa using ‹(!p l[i] m[i]) = false›) hinv⟩
    · repeat' (first
    | simp (implicitDefEqProofs := false) only [push_cast, reduceIte, reduceCtorEq, Nat.reduceAdd, Nat.reduceSub, Nat.reduceEqDiff, Nat.reduceLT, Nat.reduceLeDiff, Nat.reduceBEq, Nat.reduceMul, Int.reduceLT, Int.reduceLE, Int.reduceEq, Int.reduceToNat, Int.reduceMul, Int.reduceNeg, Go.Proofs.Try.f103, List.length_map, cast_ge hlt]
    | refine Sp2.f ?_ ?_
    | refine Spl.f ?_ ?_ <;> intro hb
    | refine rq_mk rfl (fun b hb => ?_))
      rw [all2_true hlen fun j x y hj => hinv j x y (by omega)]
  · repeat' (first
    | simp (implicitDefEqProofs := false) only [push_cast, reduceIte, reduceCtorEq, Nat.reduceAdd, Nat.reduceSub, Nat.reduceEqDiff, Nat.reduceLT, Nat.reduceLeDiff, Nat.reduceBEq, Nat.reduceMul, Int.reduceLT, Int.reduceLE, Int.reduceEq, Int.reduceToNat, Int.reduceMul, Int.reduceNeg, Go.Proofs.Try.f103, List.length_map, neq_len hlen]
    | refine Sp2.f ?_ ?_
    | refine Spl.f ?_ ?_ <;> intro hb
    | refine rq_mk rfl (fun b hb => ?_))
    rw [all2_length hlen]

def sameG (a b : Gen) : Bool := a.F == b.F && (a.Read == b.Read && (a.Write == b.Write && (all2 (fun x y : List UInt8 => x == y) a.Keys b.Keys && a.Start == b.Start)))
theorem c_gSame (a b : Gen) (ha : a.Small) (hb : b.Small) : Fn prog 41 [eG a, eG b] (.bool (sameG a b)) := by
  have hk := c_EqualFunc_Bs eBs a.Keys b.Keys (g := 69) (fun x y : List UInt8 => x == y) (by have := ha.n; omega) (by have := hb.n; omega) eBs_ty eBs_pl eBs_wk fun x hx y hy => c_Equal_B x y (by have := ha.k x hx; omega) (by have := hb.k y hy; omega)
  have hs := c_Equal_B a.Start b.Start (by have := ha.s; omega) (by have := hb.s; omega)
  refine run_41 rfl fun h => ?_
  repeat' (first
    | simp (implicitDefEqProofs := false) only [push_cast, reduceIte, reduceCtorEq, Nat.reduceAdd, Nat.reduceSub, Nat.reduceEqDiff, Nat.reduceLT, Nat.reduceLeDiff, Nat.reduceBEq, Nat.reduceMul, Int.reduceLT, Int.reduceLE, Int.reduceEq, Int.reduceToNat, Int.reduceMul, Int.reduceNeg, Go.Proofs.Try.f41, eG, eKs, eBs_ty, eBs_pl, eBs_wk, ap_lo, st_lo, st_ne, st_eq, len_st, st_st, sst, at_set, at_set0, at_set2, List.replicate_succ, List.drop_zero]
    | refine Sp2.f ?_ ?_
    | refine Spl.f ?_ ?_ <;> intro hb
    | refine rq_mk rfl (fun b hb => ?_)
    | refine k_fn hk ?_
    | refine k_fn hs ?_)
  all_goals simp_all [sameG]
def geneB : List UInt8 := [71, 69, 78, 69]
def anchorG (g : Gen) : List UInt8 := if mayG g = true then shaS (geneB ++ putG g) else List.replicate 32 0
theorem putG_len {g : Gen} (h : mayG g = true) (hg : g.Small) : (putG g).length ≤ 9000000 := by
  simp only [mayG, headG, Bool.and_eq_true, decide_eq_true_eq] at h
  have := flatten_len g.Keys hg.k
  have hs := hg.s
  simp only [putG, nb, textB, List.length_append, beN_len]
  omega
theorem c_Anchor (g : Gen) (hg : g.Small) : Fn prog 97 [eG g] (eH (anchorG g)) := by
  have hp := c_gPut g hg
  have b10 : ((1 : Int) != 0) = true := rfl
  have b00 : ((0 : Int) != 0) = false := rfl
  refine run_97 rfl fun h => ?_
  cases hm : mayG g <;> rw [hm] at hp <;> simp only [anchorG, hm]
  · repeat' (first
    | simp (implicitDefEqProofs := false) only [push_cast, reduceIte, reduceCtorEq, Nat.reduceAdd, Nat.reduceSub, Nat.reduceEqDiff, Nat.reduceLT, Nat.reduceLeDiff, Nat.reduceBEq, Nat.reduceMul, Int.reduceLT, Int.reduceLE, Int.reduceEq, Int.reduceToNat, Int.reduceMul, Int.reduceNeg, Go.Proofs.Try.f97, eG_ty, eG_pl, eG_wk, eBs_ty, eBs_pl, eBs_wk, b10, b00, ap_lo, st_lo, st_ne, st_eq, len_st, st_st, sst, at_set, at_set0, at_set2, List.replicate_succ, List.drop_zero]
    | refine Sp2.f ?_ ?_
    | refine Spl.f ?_ ?_ <;> intro hb
    | refine rq_mk rfl (fun b hb => ?_)
    | refine k_fn hp ?_)
    exact res_mk (eH_dat (List.replicate 32 0)) rfl
  · have hl := putG_len hm hg
    have hs := c_Sum (geneB ++ putG g) (by simp [geneB]; omega)
    have e1 : decide (4 + (putG g).length ≤ 4294967296) = true := by simp; omega
    generalize putG g = B at hp hs e1 hl
    repeat' (first
    | simp (implicitDefEqProofs := false) only [push_cast, reduceIte, reduceCtorEq, Nat.reduceAdd, Nat.reduceSub, Nat.reduceEqDiff, Nat.reduceLT, Nat.reduceLeDiff, Nat.reduceBEq, Nat.reduceMul, Int.reduceLT, Int.reduceLE, Int.reduceEq, Int.reduceToNat, Int.reduceMul, Int.reduceNeg, Go.Proofs.Try.f97, eG_ty, eG_pl, eG_wk, e1, eBs, List.length_map, eH_ty, eH_pl, b10, b00, ap_lo, st_lo, st_ne, st_eq, len_st, st_st, sst, at_set, at_set0, at_set2, List.replicate_succ, List.drop_zero]
    | refine Sp2.f ?_ ?_
    | refine Spl.f ?_ ?_ <;> intro hb
    | refine rq_mk rfl (fun b hb => ?_)
    | refine k_fn hp ?_
    | refine k_borrow wfp (args' := [eBs (geneB ++ B)]) ?_ hs ?_ (eH_flat _) ?_)
    · exact bwV (List.drop (4 + B.length) (geneB.map eB)) (get_at h _ 2) rfl (by simp [geneB]; omega)
    · exact dat_below (n := 0) _ (eBs_dat _)
    · exact res_mk (eH_dat _) rfl
    · exact bwV [] (get_at h _ 3) (by rw [List.append_nil]; rfl) (by simp [geneB]; omega)
    · exact dat_below (n := 0) _ (eBs_dat _)
    · exact res_mk (eH_dat _) rfl
def firstG (g : Gen) : Spc := if mayG g = true then (if g.Start.length = 0 then newS g.Read g.Write else (getS g.Start).getD zSp) else zSp
theorem c_First (g : Gen) (hg : g.Small) : Fn prog 99 [eG g] (eS (firstG g)) := by
  have hp := c_gMay g hg
  have g0 : getP (eG g) [1] = some (.int .i64 g.Read) := rfl
  have g1 : getP (eG g) [2] = some (.int .i64 g.Write) := rfl
  have g4 : getP (eG g) [4] = some (eBs g.Start) := rfl
  have hL : stLen prog 30 (eBs g.Start) = .ret (.int .i64 g.Start.length) [] := by rw [eBs, stLen_list, List.length_map]; rfl
  refine pure_wk (R := fun r => r = (if mayG g = true then eS (firstG g) else zeroAV prog 29)) 29 ?_ (fun r hr => ?_)
  · refine run_99 rfl fun h => ?_
    cases hm : mayG g <;> rw [hm] at hp
    · repeat' (first
    | simp (implicitDefEqProofs := false) only [push_cast, reduceIte, reduceCtorEq, Nat.reduceAdd, Nat.reduceSub, Nat.reduceEqDiff, Nat.reduceLT, Nat.reduceLeDiff, Nat.reduceBEq, Nat.reduceMul, Int.reduceLT, Int.reduceLE, Int.reduceEq, Int.reduceToNat, Int.reduceMul, Int.reduceNeg, Go.Proofs.Try.f99, eG_ty, eG_pl, eG_wk, ap_lo, st_lo, st_ne, st_eq, len_st, st_st, sst, at_set, at_set0, at_set2, List.replicate_succ, List.drop_zero]
    | refine Sp2.f ?_ ?_
    | refine Spl.f ?_ ?_ <;> intro hb
    | refine rq_mk rfl (fun b hb => ?_)
    | refine k_fn hp ?_)
      exact res_mk (by simp [dat_agg, datL_cons, datL_nil, dat_int, dat_bool, dat]) rfl
    · have hn := c_New g.Read g.Write
      have hget := c_sGet g.Start (by have := hg.s; omega)
      by_cases hs0 : g.Start.length = 0
      · have f0 : ((g.Start.length : Int) == 0) = true := by rw [hs0]; rfl
        repeat' (first
    | simp (implicitDefEqProofs := false) only [push_cast, reduceIte, reduceCtorEq, Nat.reduceAdd, Nat.reduceSub, Nat.reduceEqDiff, Nat.reduceLT, Nat.reduceLeDiff, Nat.reduceBEq, Nat.reduceMul, Int.reduceLT, Int.reduceLE, Int.reduceEq, Int.reduceToNat, Int.reduceMul, Int.reduceNeg, Go.Proofs.Try.f99, eG_ty, eG_pl, eG_wk, eBs_ty, eBs_pl, eBs_wk, eS_ty, eS_pl, g0, g1, g4, hL, f0, ap_lo, st_lo, st_ne, st_eq, len_st, st_st, sst, at_set, at_set0, at_set2, List.replicate_succ, List.drop_zero]
    | refine Sp2.f ?_ ?_
    | refine Spl.f ?_ ?_ <;> intro hb
    | refine rq_mk rfl (fun b hb => ?_)
    | refine k_fn hp ?_
    | refine k_fn hn ?_)
        exact res_mk (eS_dat _) (by rw [firstG, if_pos hm, if_pos hs0])
      · have f0 : ((g.Start.length : Int) == 0) = false := by rw [beq_eq_false_iff_ne]; omega
        repeat' (first
    | simp (implicitDefEqProofs := false) only [push_cast, reduceIte, reduceCtorEq, Nat.reduceAdd, Nat.reduceSub, Nat.reduceEqDiff, Nat.reduceLT, Nat.reduceLeDiff, Nat.reduceBEq, Nat.reduceMul, Int.reduceLT, Int.reduceLE, Int.reduceEq, Int.reduceToNat, Int.reduceMul, Int.reduceNeg, Go.Proofs.Try.f99, eG_ty, eG_pl, eG_wk, eBs_ty, eBs_pl, eBs_wk, eS_ty, eS_pl, g0, g1, g4, hL, f0, ap_lo, st_lo, st_ne, st_eq, len_st, st_st, sst, at_set, at_set0, at_set2, List.replicate_succ, List.drop_zero]
    | refine Sp2.f ?_ ?_
    | refine Spl.f ?_ ?_ <;> intro hb
    | refine rq_mk rfl (fun b hb => ?_)
    | refine k_fn hp ?_
    | refine k_fn hget ?_)
        exact res_mk (eS_dat _) (by rw [firstG, if_pos hm, if_neg hs0])
  · subst hr
    cases hm : mayG g with
    | true => rw [if_pos rfl]; exact ⟨eS_ty _, eS_wk _⟩
    | false =>
      rw [if_neg (by decide), firstG, hm, if_neg (by decide)]
      simp only [za_29]
      refine ⟨by rw [ty_agg]; rfl, ?_⟩
      simp only [wk_aggE, wkAgg_struct, wkAgg_arr, wk_int, wk_bool, wk_nils, wkNil_slice, sh_29, fl_29, sh_22, sh_23, sh_27, sh_26, fl_26, sh_24, List.zipWith_cons_cons, List.zipWith_nil_left, List.map_cons, List.map_nil, if_true]
      rfl

end Go.Abs
