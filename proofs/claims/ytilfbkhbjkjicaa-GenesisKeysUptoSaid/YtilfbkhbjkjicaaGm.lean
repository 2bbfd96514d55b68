/- Gm: a part of the proofs about the tuple space and its bytes. -/
import Derived.Test.YtilfbkhbjkjicaaGk
import Derived.Test.YtilfbkhbjkjicaaSy
set_option linter.all false
set_option maxRecDepth 100000
set_option maxHeartbeats 0
namespace Go.Abs
open Go
open Go.Proofs.Try (prog)
/-! ### genesis.May -/
structure Gen where
  F : Int
  Read : Int
  Write : Int
  Keys : List (List UInt8)
  Start : List UInt8
def eKs (l : List (List UInt8)) : AV := .list 30 (l.map eBs)
theorem eKs_dat (l : List (List UInt8)) : dat (eKs l) = true := by rw [eKs, dat_list]; exact datL_map eBs eBs_dat l
theorem eKs_wk (n : Nat) (l : List (List UInt8)) : wk prog n 70 (eKs l) = eKs l := wk_list ..
theorem eKs_ty (l : List (List UInt8)) : tyB prog (eKs l) 70 = true := by rw [eKs, ty_list, sh_70]; simp
def eG (g : Gen) : AV := .agg 72 [.int .i64 g.F, .int .i64 g.Read, .int .i64 g.Write, eKs g.Keys, eBs g.Start]
theorem eG_dat (g : Gen) : dat (eG g) = true := by simp [eG, dat_agg, datL_cons, datL_nil, dat_int, eKs_dat, eBs_dat]
theorem eG_ty (g : Gen) : tyB prog (eG g) 72 = true := by simp [eG, tyB]
theorem eG_pl (g : Gen) : plainAV (eG g) = true := rfl
theorem eG_wk (g : Gen) : wk prog 6 72 (eG g) = eG g := by
  simp [eG, eKs, eBs, wk_aggE, wkAgg_struct, wk_int, wk_list, sh_72, fl_72]
structure Gen.Small (g : Gen) : Prop where
  n : g.Keys.length ≤ 1000000
  k : ∀ x ∈ g.Keys, x.length ≤ 1000000
  s : g.Start.length ≤ 1000000
def startO (g : Gen) : Option Spc → Bool
  | some s => s.Read == g.Read && s.Write == g.Write
  | none => false
def startG (g : Gen) : Bool := startO g (getS g.Start)
def headG (g : Gen) : Bool := decide (0 ≤ g.F) && decide (g.F ≤ 2) && decide (g.Read.fdiv 16 = 0) && decide (g.Write.fdiv 16 = 0) && decide ((g.Keys.length : Int) = 3 * g.F + 1)
def mayG (g : Gen) : Bool := headG g && (g.Keys.all formK && (decide (g.Start.length = 0) || startG g))
theorem wrapF {f : Int} (h0 : 0 ≤ f) (h2 : f ≤ 2) : IntKind.i64.wrap (IntKind.i64.wrap (3 * f) + 1) = 3 * f + 1 := by
  rw [i64_small (v := 3 * f) (by omega) (by omega), i64_small (by omega) (by omega)]
theorem c_gMay (g : Gen) (hg : g.Small) : Fn prog 38 [eG g] (.bool (mayG g)) := by
  refine run_38 rfl fun h => ?_
  have hmf : headG g = false → mayG g = false := fun h => by rw [mayG, h]; rfl
  repeat' (first
    | simp (implicitDefEqProofs := false) only [push_cast, reduceIte, reduceCtorEq, Nat.reduceAdd, Nat.reduceSub, Nat.reduceEqDiff, Nat.reduceLT, Nat.reduceLeDiff, Nat.reduceBEq, Nat.reduceMul, Int.reduceLT, Int.reduceLE, Int.reduceEq, Int.reduceToNat, Int.reduceMul, Int.reduceNeg, Go.Proofs.Try.f38, eG, eKs, eBs, List.length_map, pow4, ap_lo, st_lo, st_ne, st_eq, len_st, st_st, sst, at_set, at_set0, at_set2, List.replicate_succ, List.drop_zero]
    | refine Sp2.f ?_ ?_
    | refine Spl.f ?_ ?_ <;> intro hb
    | refine rq_mk rfl (fun b hb => ?_))
  all_goals first
    | (rw [hmf (by simp only [headG]; grind)]; done)
    | skip
  · have h0 := ‹decide (g.F < 0) = false›
    have h2 := ‹decide (2 < g.F) = false›
    have h3 := ‹((g.Keys.length : Int) != IntKind.i64.wrap (IntKind.i64.wrap (3 * g.F) + 1)) = true›
    simp only [decide_eq_false_iff_not] at h0 h2
    rw [wrapF (by omega) (by omega)] at h3
    rw [hmf (by simp only [headG]; grind)]
  have h0 := ‹decide (g.F < 0) = false›
  have h2 := ‹decide (2 < g.F) = false›
  have h3 := ‹((g.Keys.length : Int) != IntKind.i64.wrap (IntKind.i64.wrap (3 * g.F) + 1)) = false›
  simp only [decide_eq_false_iff_not] at h0 h2
  rw [wrapF (by omega) (by omega)] at h3
  have hh : headG g = true := by simp only [headG]; grind
  have hmt : mayG g = (g.Keys.all formK && (decide (g.Start.length = 0) || startG g)) := by rw [mayG, hh]; rfl
  have hk7 : g.Keys.length ≤ 7 := by
    simp only [headG, Bool.and_eq_true, decide_eq_true_eq] at hh
    omega
  clear h0 h2 h3 hmf
  refine rl_count (fun i a => [(0, a 0), (1, .ref h.length [0] 72), (2, .bool false), (4, a 4), (5, a 5), (6, a 6), (36, a 36), (38, eKs g.Keys), (39, .int .i64 g.Keys.length), (40, .int .i64 i), (41, a 41), (46, a 46), (51, a 51)]) (fun _ gg => h ++ (⟨72, [eG g], .own⟩ :: gg)) (fun i => i ≤ g.Keys.length ∧ ∀ j x, j < i → g.Keys[j]? = some x → formK x = true) g.Keys.length (li_mk rfl ⟨[], rfl⟩ ⟨Nat.zero_le _, fun j x hj => absurd hj (Nat.not_lt_zero j)⟩) ?_
  rintro i a gg ⟨hi, hinv⟩
  refine ⟨hi, ?_⟩
  by_cases hlt : i < g.Keys.length
  · obtain ⟨x, hx⟩ : ∃ x, g.Keys[i]? = some x := ⟨_, List.getElem?_eq_getElem hlt⟩
    have hf := c_Form x (by have := hg.k x (List.mem_of_getElem? hx); omega)
    cases hfx : formK x with
    | true =>
      rw [hfx] at hf
      repeat' (first
    | simp (implicitDefEqProofs := false) only [push_cast, reduceIte, reduceCtorEq, Nat.reduceAdd, Nat.reduceSub, Nat.reduceEqDiff, Nat.reduceLT, Nat.reduceLeDiff, Nat.reduceBEq, Nat.reduceMul, Int.reduceLT, Int.reduceLE, Int.reduceEq, Int.reduceToNat, Int.reduceMul, Int.reduceNeg, Go.Proofs.Try.f38, eG, eKs, eBs_ty, eBs_pl, eBs_wk, List.length_map, cast_lt hlt, in_row hlt, getD_map eBs hx, Int.toNat_natCast, wrap_succ (show i < 9223372036854775807 by omega), ap_lo, st_lo, st_ne, st_eq, len_st, st_st, sst, at_set, at_set0, at_set2, List.replicate_succ, List.drop_zero]
    | refine Sp2.f ?_ ?_
    | refine Spl.f ?_ ?_ <;> intro hb
    | refine rq_mk rfl (fun b hb => ?_)
    | refine k_fn hf ?_
    | refine li_mk ?_ ⟨_, rfl⟩ ?_)
      refine ⟨hlt, fun j y hj hy => ?_⟩
      by_cases e : j = i
      · subst e; rw [hx] at hy; cases hy; exact hfx
      · exact hinv j y (by omega) hy
    | false =>
      rw [hfx] at hf
      repeat' (first
    | simp (implicitDefEqProofs := false) only [push_cast, reduceIte, reduceCtorEq, Nat.reduceAdd, Nat.reduceSub, Nat.reduceEqDiff, Nat.reduceLT, Nat.reduceLeDiff, Nat.reduceBEq, Nat.reduceMul, Int.reduceLT, Int.reduceLE, Int.reduceEq, Int.reduceToNat, Int.reduceMul, Int.reduceNeg, Go.Proofs.Try.f38, eG, eKs, eBs_ty, eBs_pl, eBs_wk, List.length_map, cast_lt hlt, in_row hlt, getD_map eBs hx, Int.toNat_natCast, ap_lo, st_lo, st_ne, st_eq, len_st, st_st, sst, at_set, at_set0, at_set2, List.replicate_succ, List.drop_zero]
    | refine Sp2.f ?_ ?_
    | refine Spl.f ?_ ?_ <;> intro hb
    | refine rq_mk rfl (fun b hb => ?_)
    | refine k_fn hf ?_)
      have : g.Keys.all formK = false := by rw [List.all_eq_false]; exact ⟨x, List.mem_of_getElem? hx, by simp [hfx]⟩
      rw [hmt, this]; rfl
  · have hall : g.Keys.all formK = true := by
      rw [List.all_eq_true]
      intro x hx
      obtain ⟨j, hj, e⟩ := List.mem_iff_getElem.1 hx
      exact hinv j x (by omega) (by rw [← e]; exact List.getElem?_eq_getElem hj)
    rw [hmt, hall, Bool.true_and]
    have hget := c_sGet g.Start (by have := hg.s; omega)
    have e00 : ((0 : Int) == 0) = true := rfl
    have e20 : ((2 : Int) == 0) = false := rfl
    by_cases hs0 : g.Start.length = 0
    · have f0 : ((g.Start.length : Int) == 0) = true := by rw [hs0]; rfl
      rw [decide_eq_true hs0, Bool.true_or]
      repeat' (first
    | simp (implicitDefEqProofs := false) only [push_cast, reduceIte, reduceCtorEq, Nat.reduceAdd, Nat.reduceSub, Nat.reduceEqDiff, Nat.reduceLT, Nat.reduceLeDiff, Nat.reduceBEq, Nat.reduceMul, Int.reduceLT, Int.reduceLE, Int.reduceEq, Int.reduceToNat, Int.reduceMul, Int.reduceNeg, Go.Proofs.Try.f38, eG, eKs, eBs, f0, List.length_map, cast_ge hlt, ap_lo, st_lo, st_ne, st_eq, len_st, st_st, sst, at_set, at_set0, at_set2, List.replicate_succ, List.drop_zero]
    | refine Sp2.f ?_ ?_
    | refine Spl.f ?_ ?_ <;> intro hb
    | refine rq_mk rfl (fun b hb => ?_))
    · have f0 : ((g.Start.length : Int) == 0) = false := by rw [beq_eq_false_iff_ne]; omega
      rw [decide_eq_false hs0, Bool.false_or]
      obtain ⟨o, hG⟩ : ∃ o, getS g.Start = o := ⟨_, rfl⟩
      rw [hG] at hget
      have hst : startG g = startO g o := congrArg (startO g) hG
      rw [hst]
      clear hst hG
      cases o with
      | none =>
        rw [startO]
        repeat' (first
    | simp (implicitDefEqProofs := false) only [push_cast, reduceIte, reduceCtorEq, Nat.reduceAdd, Nat.reduceSub, Nat.reduceEqDiff, Nat.reduceLT, Nat.reduceLeDiff, Nat.reduceBEq, Nat.reduceMul, Int.reduceLT, Int.reduceLE, Int.reduceEq, Int.reduceToNat, Int.reduceMul, Int.reduceNeg, Go.Proofs.Try.f38, eG, eKs, eBs, eS_ty, e20, f0, List.length_map, cast_ge hlt, ap_lo, st_lo, st_ne, st_eq, len_st, st_st, sst, at_set, at_set0, at_set2, List.replicate_succ, List.drop_zero]
    | refine Sp2.f ?_ ?_
    | refine Spl.f ?_ ?_ <;> intro hb
    | refine rq_mk rfl (fun b hb => ?_)
    | refine k_fn hget ?_)
      | some s =>
        rw [startO]
        have p3 : getP (eS s) [3] = some (.int .i64 s.Read) := rfl
        have p4 : getP (eS s) [4] = some (.int .i64 s.Write) := rfl
        repeat' (first
    | simp (implicitDefEqProofs := false) only [push_cast, reduceIte, reduceCtorEq, Nat.reduceAdd, Nat.reduceSub, Nat.reduceEqDiff, Nat.reduceLT, Nat.reduceLeDiff, Nat.reduceBEq, Nat.reduceMul, Int.reduceLT, Int.reduceLE, Int.reduceEq, Int.reduceToNat, Int.reduceMul, Int.reduceNeg, Go.Proofs.Try.f38, eG, eKs, eBs, eS_ty, e00, p3, p4, f0, List.length_map, cast_ge hlt, ap_lo, st_lo, st_ne, st_eq, len_st, st_st, sst, at_set, at_set0, at_set2, List.replicate_succ, List.drop_zero]
    | refine Sp2.f ?_ ?_
    | refine Spl.f ?_ ?_ <;> intro hb
    | refine rq_mk rfl (fun b hb => ?_)
    | refine k_fn hget ?_)
        · rw [‹(s.Read == g.Read) = true›, Bool.true_and]
        · rw [‹(s.Read == g.Read) = false›, Bool.false_and]

end Go.Abs
