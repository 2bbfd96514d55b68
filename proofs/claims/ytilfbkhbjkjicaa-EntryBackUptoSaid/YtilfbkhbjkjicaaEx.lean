/- Ex: a part of the proofs about the tuple space and its bytes. -/
import Derived.Test.YtilfbkhbjkjicaaEw
import Derived.Test.YtilfbkhbjkjicaaP2
import Derived.Test.YtilfbkhbjkjicaaMq
set_option linter.all false
set_option maxRecDepth 100000
set_option maxHeartbeats 0
namespace Go.Abs
open Go
open Go.Proofs.Try (prog)
/-! ### the measures of entries -/
def fewQ (r : Req) : Bool := fewF r.P && fewF r.T
def fewE (e : Ent) : Bool := decide (e.List.length ≤ 20) && e.List.all fewQ
def sameQ (x y : Req) : Bool := x.Client == y.Client && (x.Seq == y.Seq && (x.Kind == y.Kind && (x.Lease == y.Lease && (sameT x.P y.P && sameT x.T y.T))))
def sameE (a b : Ent) : Bool := a.Now == b.Now && all2 sameQ a.List b.List
theorem c_SameRequest (x y : Req) (hx : x.Small) (hy : y.Small) : Fn prog 88 [eQ x, eQ y] (.bool (sameQ x y)) := by
  refine run_88 rfl fun h => ?_
  have s1 := c_SameFields x.P y.P hx.P hy.P
  have s2 := c_SameFields x.T y.T hx.T hy.T
  repeat' (first
    | simp (implicitDefEqProofs := false) only [push_cast, reduceIte, reduceCtorEq, Nat.reduceAdd, Nat.reduceSub, Nat.reduceEqDiff, Nat.reduceLT, Nat.reduceLeDiff, Nat.reduceBEq, Nat.reduceMul, Int.reduceLT, Int.reduceLE, Int.reduceEq, Int.reduceToNat, Int.reduceMul, Int.reduceNeg, Go.Proofs.Try.f88, eQ, eFs_ty, eFs_pl, eFs_wk, ap_lo, st_lo, st_ne, st_eq, len_st, st_st, sst, at_set, at_set0, at_set2, List.replicate_succ, List.drop_zero]
    | refine Sp2.f ?_ ?_
    | refine Spl.f ?_ ?_ <;> intro hb
    | refine rq_mk rfl (fun b hb => ?_)
    | refine k_fn s1 ?_
    | refine k_fn s2 ?_)
  all_goals simp only [sameQ, sameT]
  all_goals simp_all
theorem c_Few11 (e : Ent) (he : e.Small) : Fn prog 26 [eE e] (.bool (fewE e)) := by
  refine run_26 rfl fun h => ?_
  have g1 : getP (eE e) [1] = some (.list 60 (e.List.map eQ)) := rfl
  have hln := he.n
  by_cases hH : e.List.length ≤ 20
  · have g3 : decide ((20 : Int) < (e.List.length : Int)) = false := by simp; omega
    repeat' (first
    | simp (implicitDefEqProofs := false) only [push_cast, reduceIte, reduceCtorEq, Nat.reduceAdd, Nat.reduceSub, Nat.reduceEqDiff, Nat.reduceLT, Nat.reduceLeDiff, Nat.reduceBEq, Nat.reduceMul, Int.reduceLT, Int.reduceLE, Int.reduceEq, Int.reduceToNat, Int.reduceMul, Int.reduceNeg, Go.Proofs.Try.f26, g1, eE_ty, eE_pl, eE_wk, List.length_map, g3, ap_lo, st_lo, st_ne, st_eq, len_st, st_st, sst, at_set, at_set0, at_set2, at_set20, sst2, List.replicate_succ, List.drop_zero]
    | refine Sp2.f ?_ ?_
    | refine Spl.f ?_ ?_ <;> intro hb
    | refine rq_mk rfl (fun b hb => ?_))
    refine rl_gen (GI1 h ⟨49, [eE e], .own⟩ (fun i => i ≤ e.List.length ∧ ∀ j x, j < i → e.List[j]? = some x → fewQ x = true) (fun i a => [(0, eE e), (1, .ref h.length [0] 49), (2, .bool false), (3, .int .i64 i), (7, a 7), (12, a 12), (21, a 21)])) e.List.length ?_ ?_
    · exact .mk0 ⟨Nat.zero_le _, fun j x hj => absurd hj (Nat.not_lt_zero _)⟩ (by simp) (get_at0 h _) rfl
    rintro i env H ⟨⟨hi, hinv⟩, hT, a0, henv⟩
    refine ⟨hi, ?_⟩
    rw [henv]
    generalize lk env = a
    clear henv env
    by_cases hlt : i < e.List.length
    · obtain ⟨x, hx⟩ : ∃ x, e.List[i]? = some x := ⟨_, List.getElem?_eq_getElem hlt⟩
      have gx := getD_map eQ hx
      have f1 := c_Few7 x (he.q x (List.mem_of_getElem? hx))
      rw [show (fewF x.P && fewF x.T) = fewQ x from rfl] at f1
      cases hf : fewQ x with
      | false =>
        rw [hf] at f1
        repeat' (first
    | simp (implicitDefEqProofs := false) only [push_cast, reduceIte, reduceCtorEq, Nat.reduceAdd, Nat.reduceSub, Nat.reduceEqDiff, Nat.reduceLT, Nat.reduceLeDiff, Nat.reduceBEq, Nat.reduceMul, Int.reduceLT, Int.reduceLE, Int.reduceEq, Int.reduceToNat, Int.reduceMul, Int.reduceNeg, Go.Proofs.Try.f26, a0, g1, eE_ty, eE_pl, eE_wk, eQ_ty, eQ_pl, eQ_wk, List.length_map, cast_lt hlt, in_row hlt, gx, Int.toNat_natCast, ap_lo, st_lo, st_ne, st_eq, len_st, st_st, sst, at_set, at_set0, at_set2, at_set20, sst2, List.replicate_succ, List.drop_zero]
    | refine Sp2.f ?_ ?_
    | refine Spl.f ?_ ?_ <;> intro hb
    | refine rq_mk rfl (fun b hb => ?_)
    | refine k_fn f1 ?_)
        have : fewE e = false := by
          have hb : e.List.all fewQ = false := by rw [List.all_eq_false]; exact ⟨x, List.mem_of_getElem? hx, by simp [hf]⟩
          simp only [fewE, hb, Bool.and_false]
        exact ⟨hT, by rw [this]⟩
      | true =>
        rw [hf] at f1
        repeat' (first
    | simp (implicitDefEqProofs := false) only [push_cast, reduceIte, reduceCtorEq, Nat.reduceAdd, Nat.reduceSub, Nat.reduceEqDiff, Nat.reduceLT, Nat.reduceLeDiff, Nat.reduceBEq, Nat.reduceMul, Int.reduceLT, Int.reduceLE, Int.reduceEq, Int.reduceToNat, Int.reduceMul, Int.reduceNeg, Go.Proofs.Try.f26, a0, g1, eE_ty, eE_pl, eE_wk, eQ_ty, eQ_pl, eQ_wk, List.length_map, cast_lt hlt, in_row hlt, gx, Int.toNat_natCast, wrap_succ (show i < 9223372036854775807 by omega), ap_lo, st_lo, st_ne, st_eq, len_st, st_st, sst, at_set, at_set0, at_set2, at_set20, sst2, List.replicate_succ, List.drop_zero]
    | refine Sp2.f ?_ ?_
    | refine Spl.f ?_ ?_ <;> intro hb
    | refine rq_mk rfl (fun b hb => ?_)
    | refine k_fn f1 ?_)
        exact .mk0 ⟨hlt, step_idx hx hf hinv⟩ hT a0 rfl
    · repeat' (first
    | simp (implicitDefEqProofs := false) only [push_cast, reduceIte, reduceCtorEq, Nat.reduceAdd, Nat.reduceSub, Nat.reduceEqDiff, Nat.reduceLT, Nat.reduceLeDiff, Nat.reduceBEq, Nat.reduceMul, Int.reduceLT, Int.reduceLE, Int.reduceEq, Int.reduceToNat, Int.reduceMul, Int.reduceNeg, Go.Proofs.Try.f26, a0, g1, eE_ty, eE_pl, eE_wk, List.length_map, cast_ge hlt, ap_lo, st_lo, st_ne, st_eq, len_st, st_st, sst, at_set, at_set0, at_set2, at_set20, sst2, List.replicate_succ, List.drop_zero]
    | refine Sp2.f ?_ ?_
    | refine Spl.f ?_ ?_ <;> intro hb
    | refine rq_mk rfl (fun b hb => ?_))
      have : fewE e = true := by
        simp only [fewE, decide_eq_true hH, Bool.true_and]
        exact all_idx fun j x hj hx => hinv j x (by omega) hx
      exact ⟨hT, by rw [this]⟩
  · have g3 : decide ((20 : Int) < (e.List.length : Int)) = true := by simp; omega
    repeat' (first
    | simp (implicitDefEqProofs := false) only [push_cast, reduceIte, reduceCtorEq, Nat.reduceAdd, Nat.reduceSub, Nat.reduceEqDiff, Nat.reduceLT, Nat.reduceLeDiff, Nat.reduceBEq, Nat.reduceMul, Int.reduceLT, Int.reduceLE, Int.reduceEq, Int.reduceToNat, Int.reduceMul, Int.reduceNeg, Go.Proofs.Try.f26, g1, eE_ty, eE_pl, eE_wk, List.length_map, g3, ap_lo, st_lo, st_ne, st_eq, len_st, st_st, sst, at_set, at_set0, at_set2, at_set20, sst2, List.replicate_succ, List.drop_zero]
    | refine Sp2.f ?_ ?_
    | refine Spl.f ?_ ?_ <;> intro hb
    | refine rq_mk rfl (fun b hb => ?_))
    simp only [fewE, decide_eq_false hH, Bool.false_and]
theorem c_MayEntry6 (e : Ent) (he : e.Small) : Fn prog 29 [eE e] (.bool (mayE e)) := by
  refine run_29 rfl fun h => ?_
  have g0 : getP (eE e) [0] = some (.int .i64 e.Now) := rfl
  have g1 : getP (eE e) [1] = some (.list 60 (e.List.map eQ)) := rfl
  have hln := he.n
  cases hH : headE e with
  | false =>
    have hm : mayE e = false := by rw [mayE, hH, Bool.false_and]
    have hH2 := hH
    simp only [headE, Bool.and_eq_false_iff, decide_eq_false_iff_not] at hH2
    repeat' (first
    | simp (implicitDefEqProofs := false) only [push_cast, reduceIte, reduceCtorEq, Nat.reduceAdd, Nat.reduceSub, Nat.reduceEqDiff, Nat.reduceLT, Nat.reduceLeDiff, Nat.reduceBEq, Nat.reduceMul, Int.reduceLT, Int.reduceLE, Int.reduceEq, Int.reduceToNat, Int.reduceMul, Int.reduceNeg, Go.Proofs.Try.f29, g0, g1, eE_ty, eE_pl, eE_wk, List.length_map, ap_lo, st_lo, st_ne, st_eq, len_st, st_st, sst, at_set, at_set0, at_set2, at_set20, sst2, List.replicate_succ, List.drop_zero]
    | refine Sp2.f ?_ ?_
    | refine Spl.f ?_ ?_ <;> intro hb
    | refine rq_mk rfl (fun b hb => ?_))
    all_goals first
      | (exfalso; simp only [decide_eq_true_eq, decide_eq_false_iff_not, Int.not_lt] at *; omega)
      | exact ⟨by simp, by rw [hm]⟩
      | rw [hm]
  | true =>
    have hH2 := hH
    simp only [headE, Bool.and_eq_true, decide_eq_true_eq] at hH2
    obtain ⟨k1, k2, k3, k4⟩ := hH2
    have d1 : decide (e.Now < 0) = false := by simp; omega
    have d2 : decide ((1099511627776 : Int) < e.Now) = false := by simp; omega
    have d3 : decide ((e.List.length : Int) < 1) = false := by simp; omega
    have d4 : decide ((8 : Int) < (e.List.length : Int)) = false := by simp; omega
    repeat' (first
    | simp (implicitDefEqProofs := false) only [push_cast, reduceIte, reduceCtorEq, Nat.reduceAdd, Nat.reduceSub, Nat.reduceEqDiff, Nat.reduceLT, Nat.reduceLeDiff, Nat.reduceBEq, Nat.reduceMul, Int.reduceLT, Int.reduceLE, Int.reduceEq, Int.reduceToNat, Int.reduceMul, Int.reduceNeg, Go.Proofs.Try.f29, g0, g1, eE_ty, eE_pl, eE_wk, List.length_map, d1, d2, d3, d4, ap_lo, st_lo, st_ne, st_eq, len_st, st_st, sst, at_set, at_set0, at_set2, at_set20, sst2, List.replicate_succ, List.drop_zero]
    | refine Sp2.f ?_ ?_
    | refine Spl.f ?_ ?_ <;> intro hb
    | refine rq_mk rfl (fun b hb => ?_))
    refine rl_gen (GI1 h ⟨49, [eE e], .own⟩ (fun i => i ≤ e.List.length ∧ ∀ j x, j < i → e.List[j]? = some x → mayQ x = true) (fun i a => [(0, eE e), (1, .ref h.length [0] 49), (2, .bool false), (3, .int .i64 i), (23, a 23), (28, a 28), (37, a 37)])) e.List.length ?_ ?_
    · exact .mk0 ⟨Nat.zero_le _, fun j x hj => absurd hj (Nat.not_lt_zero _)⟩ (by simp) (get_at0 h _) rfl
    rintro i env H ⟨⟨hi, hinv⟩, hT, a0, henv⟩
    refine ⟨hi, ?_⟩
    rw [henv]
    generalize lk env = a
    clear henv env
    by_cases hlt : i < e.List.length
    · obtain ⟨x, hx⟩ : ∃ x, e.List[i]? = some x := ⟨_, List.getElem?_eq_getElem hlt⟩
      have gx := getD_map eQ hx
      have f1 := c_MayRequest6 x (he.q x (List.mem_of_getElem? hx))
      rw [mayQ6_eq] at f1
      cases hf : mayQ x with
      | false =>
        rw [hf] at f1
        repeat' (first
    | simp (implicitDefEqProofs := false) only [push_cast, reduceIte, reduceCtorEq, Nat.reduceAdd, Nat.reduceSub, Nat.reduceEqDiff, Nat.reduceLT, Nat.reduceLeDiff, Nat.reduceBEq, Nat.reduceMul, Int.reduceLT, Int.reduceLE, Int.reduceEq, Int.reduceToNat, Int.reduceMul, Int.reduceNeg, Go.Proofs.Try.f29, a0, g0, g1, eE_ty, eE_pl, eE_wk, eQ_ty, eQ_pl, eQ_wk, List.length_map, cast_lt hlt, in_row hlt, gx, Int.toNat_natCast, ap_lo, st_lo, st_ne, st_eq, len_st, st_st, sst, at_set, at_set0, at_set2, at_set20, sst2, List.replicate_succ, List.drop_zero]
    | refine Sp2.f ?_ ?_
    | refine Spl.f ?_ ?_ <;> intro hb
    | refine rq_mk rfl (fun b hb => ?_)
    | refine k_fn f1 ?_)
        have : mayE e = false := by
          have hb : e.List.all mayQ = false := by rw [List.all_eq_false]; exact ⟨x, List.mem_of_getElem? hx, by simp [hf]⟩
          simp only [mayE, hb, Bool.and_false]
        exact ⟨hT, by rw [this]⟩
      | true =>
        rw [hf] at f1
        repeat' (first
    | simp (implicitDefEqProofs := false) only [push_cast, reduceIte, reduceCtorEq, Nat.reduceAdd, Nat.reduceSub, Nat.reduceEqDiff, Nat.reduceLT, Nat.reduceLeDiff, Nat.reduceBEq, Nat.reduceMul, Int.reduceLT, Int.reduceLE, Int.reduceEq, Int.reduceToNat, Int.reduceMul, Int.reduceNeg, Go.Proofs.Try.f29, a0, g0, g1, eE_ty, eE_pl, eE_wk, eQ_ty, eQ_pl, eQ_wk, List.length_map, cast_lt hlt, in_row hlt, gx, Int.toNat_natCast, wrap_succ (show i < 9223372036854775807 by omega), ap_lo, st_lo, st_ne, st_eq, len_st, st_st, sst, at_set, at_set0, at_set2, at_set20, sst2, List.replicate_succ, List.drop_zero]
    | refine Sp2.f ?_ ?_
    | refine Spl.f ?_ ?_ <;> intro hb
    | refine rq_mk rfl (fun b hb => ?_)
    | refine k_fn f1 ?_)
        exact .mk0 ⟨hlt, step_idx hx hf hinv⟩ hT a0 rfl
    · repeat' (first
    | simp (implicitDefEqProofs := false) only [push_cast, reduceIte, reduceCtorEq, Nat.reduceAdd, Nat.reduceSub, Nat.reduceEqDiff, Nat.reduceLT, Nat.reduceLeDiff, Nat.reduceBEq, Nat.reduceMul, Int.reduceLT, Int.reduceLE, Int.reduceEq, Int.reduceToNat, Int.reduceMul, Int.reduceNeg, Go.Proofs.Try.f29, a0, g0, g1, eE_ty, eE_pl, eE_wk, List.length_map, cast_ge hlt, ap_lo, st_lo, st_ne, st_eq, len_st, st_st, sst, at_set, at_set0, at_set2, at_set20, sst2, List.replicate_succ, List.drop_zero]
    | refine Sp2.f ?_ ?_
    | refine Spl.f ?_ ?_ <;> intro hb
    | refine rq_mk rfl (fun b hb => ?_))
      have : mayE e = true := by
        simp only [mayE, hH, Bool.true_and]
        exact all_idx fun j x hj hx => hinv j x (by omega) hx
      exact ⟨hT, by rw [this]⟩
theorem c_same11 (p q : Ent) (ha : p.Small) (hb : q.Small) : Fn prog 31 [eE p, eE q] (.bool (sameE p q)) := by
  refine run_31 rfl fun h => ?_
  have g0 : getP (eE p) [0] = some (.int .i64 p.Now) := rfl
  have g1 : getP (eE p) [1] = some (.list 60 (p.List.map eQ)) := rfl
  have g2 : getP (eE q) [0] = some (.int .i64 q.Now) := rfl
  have g3 : getP (eE q) [1] = some (.list 60 (q.List.map eQ)) := rfl
  have hla := ha.n
  have hlb := hb.n
  cases hn : (p.Now == q.Now) with
  | false =>
    have hn2 : (p.Now != q.Now) = true := by rw [bne, hn]; rfl
    have hs : sameE p q = false := by rw [sameE, hn, Bool.false_and]
    repeat' (first
    | simp (implicitDefEqProofs := false) only [push_cast, reduceIte, reduceCtorEq, Nat.reduceAdd, Nat.reduceSub, Nat.reduceEqDiff, Nat.reduceLT, Nat.reduceLeDiff, Nat.reduceBEq, Nat.reduceMul, Int.reduceLT, Int.reduceLE, Int.reduceEq, Int.reduceToNat, Int.reduceMul, Int.reduceNeg, Go.Proofs.Try.f31, g0, g1, g2, g3, hn2, eE_ty, eE_pl, eE_wk, List.length_map, ap_lo, st_lo, st_ne, st_eq, len_st, st_st, sst, at_set, at_set0, at_set2, at_set20, sst2, List.replicate_succ, List.drop_zero]
    | refine Sp2.f ?_ ?_
    | refine Spl.f ?_ ?_ <;> intro hb
    | refine rq_mk rfl (fun b hb => ?_)
    | refine r_draw (U := [[], [], [], [], [], [], [], [], [], [], [], []]) (H := []) hmix (by kernel_rfl) (by decide +kernel) (by kernel_rfl) ?_)
    all_goals first
      | exact ⟨by simp, by rw [hs]⟩
      | rw [hs]
  | true =>
    have hn2 : (p.Now != q.Now) = false := by rw [bne, hn]; rfl
    by_cases hl : p.List.length = q.List.length
    · have hl2 : ((p.List.length : Int) != (q.List.length : Int)) = false := by simp [hl]
      repeat' (first
    | simp (implicitDefEqProofs := false) only [push_cast, reduceIte, reduceCtorEq, Nat.reduceAdd, Nat.reduceSub, Nat.reduceEqDiff, Nat.reduceLT, Nat.reduceLeDiff, Nat.reduceBEq, Nat.reduceMul, Int.reduceLT, Int.reduceLE, Int.reduceEq, Int.reduceToNat, Int.reduceMul, Int.reduceNeg, Go.Proofs.Try.f31, g0, g1, g2, g3, hn2, hl2, eE_ty, eE_pl, eE_wk, List.length_map, ap_lo, st_lo, st_ne, st_eq, len_st, st_st, sst, at_set, at_set0, at_set2, at_set20, sst2, List.replicate_succ, List.drop_zero]
    | refine Sp2.f ?_ ?_
    | refine Spl.f ?_ ?_ <;> intro hb
    | refine rq_mk rfl (fun b hb => ?_)
    | refine r_draw (U := [[], [], [], [], [], [], [], [], [], [], [], []]) (H := []) hmix (by kernel_rfl) (by decide +kernel) (by kernel_rfl) ?_)
      refine rl_gen (fun i env' H => (i ≤ p.List.length ∧ ∀ j x y, j < i → p.List[j]? = some x → q.List[j]? = some y → sameQ x y = true) ∧ H.take h.length = h ∧ H[h.length]? = some ⟨49, [eE p], .own⟩ ∧ H[h.length + 1]? = some ⟨49, [eE q], .own⟩ ∧
        env' = (fun a : Nat → AV => [(0, eE p), (1, eE q), (2, .ref h.length [0] 49), (3, .ref (h.length + 1) [0] 49), (4, .bool false), (5, .int .i64 i), (19, a 19), (24, a 24), (38, a 38)]) (lk env')) p.List.length ⟨⟨Nat.zero_le _, fun j x y hj => absurd hj (Nat.not_lt_zero _)⟩, by simp, get_at0 .., get_at h _ 1, rfl⟩ ?_
      rintro i env H ⟨⟨hi, hinv⟩, hT, c0, c1, henv⟩
      refine ⟨hi, ?_⟩
      rw [henv]
      generalize lk env = a
      clear henv env
      have l0 := lt_some c0
      have l1 := lt_some c1
      by_cases hlt : i < p.List.length
      · obtain ⟨x, hx⟩ : ∃ x, p.List[i]? = some x := ⟨_, List.getElem?_eq_getElem hlt⟩
        have hlt2 : i < q.List.length := by omega
        obtain ⟨y, hy⟩ : ∃ y, q.List[i]? = some y := ⟨_, List.getElem?_eq_getElem hlt2⟩
        have gx := getD_map eQ hx
        have gy := getD_map eQ hy
        have f1 := c_SameRequest x y (ha.q x (List.mem_of_getElem? hx)) (hb.q y (List.mem_of_getElem? hy))
        have hi9 : i < 9223372036854775807 := by omega
        cases hf : sameQ x y with
        | false =>
          rw [hf] at f1
          repeat' (first
    | simp (implicitDefEqProofs := false) only [push_cast, reduceIte, reduceCtorEq, Nat.reduceAdd, Nat.reduceSub, Nat.reduceEqDiff, Nat.reduceLT, Nat.reduceLeDiff, Nat.reduceBEq, Nat.reduceMul, Int.reduceLT, Int.reduceLE, Int.reduceEq, Int.reduceToNat, Int.reduceMul, Int.reduceNeg, Go.Proofs.Try.f31, c0, c1, l0, l1, g1, g3, eQ_ty, eQ_pl, eQ_wk, List.length_map, cast_lt hlt, in_row hlt, in_row hlt2, gx, gy, Int.toNat_natCast, ap_lo, st_lo, st_ne, st_eq, len_st, st_st, sst, at_set, at_set0, at_set2, at_set20, sst2, List.replicate_succ, List.drop_zero]
    | refine Sp2.f ?_ ?_
    | refine Spl.f ?_ ?_ <;> intro hb
    | refine rq_mk rfl (fun b hb => ?_)
    | refine r_draw (U := [[], [], [], [], [], [], [], [], [], [], [], []]) (H := []) hmix (by kernel_rfl) (by decide +kernel) (by kernel_rfl) ?_
    | refine dk_pure f1 ?_)
          have : sameE p q = false := by
            rw [sameE, all2_false hx hy hf, Bool.and_false]
          exact ⟨hT, by rw [this]⟩
        | true =>
          rw [hf] at f1
          repeat' (first
    | simp (implicitDefEqProofs := false) only [push_cast, reduceIte, reduceCtorEq, Nat.reduceAdd, Nat.reduceSub, Nat.reduceEqDiff, Nat.reduceLT, Nat.reduceLeDiff, Nat.reduceBEq, Nat.reduceMul, Int.reduceLT, Int.reduceLE, Int.reduceEq, Int.reduceToNat, Int.reduceMul, Int.reduceNeg, Go.Proofs.Try.f31, c0, c1, l0, l1, g1, g3, eQ_ty, eQ_pl, eQ_wk, List.length_map, cast_lt hlt, in_row hlt, in_row hlt2, gx, gy, Int.toNat_natCast, wrap_succ hi9, ap_lo, st_lo, st_ne, st_eq, len_st, st_st, sst, at_set, at_set0, at_set2, at_set20, sst2, List.replicate_succ, List.drop_zero]
    | refine Sp2.f ?_ ?_
    | refine Spl.f ?_ ?_ <;> intro hb
    | refine rq_mk rfl (fun b hb => ?_)
    | refine r_draw (U := [[], [], [], [], [], [], [], [], [], [], [], []]) (H := []) hmix (by kernel_rfl) (by decide +kernel) (by kernel_rfl) ?_
    | refine dk_pure f1 ?_)
          exact ⟨⟨hlt, none_before2 hx hy hf hinv⟩, hT⟩
      · repeat' (first
    | simp (implicitDefEqProofs := false) only [push_cast, reduceIte, reduceCtorEq, Nat.reduceAdd, Nat.reduceSub, Nat.reduceEqDiff, Nat.reduceLT, Nat.reduceLeDiff, Nat.reduceBEq, Nat.reduceMul, Int.reduceLT, Int.reduceLE, Int.reduceEq, Int.reduceToNat, Int.reduceMul, Int.reduceNeg, Go.Proofs.Try.f31, c0, c1, l0, l1, g1, g3, List.length_map, cast_ge hlt, ap_lo, st_lo, st_ne, st_eq, len_st, st_st, sst, at_set, at_set0, at_set2, at_set20, sst2, List.replicate_succ, List.drop_zero]
    | refine Sp2.f ?_ ?_
    | refine Spl.f ?_ ?_ <;> intro hb
    | refine rq_mk rfl (fun b hb => ?_)
    | refine r_draw (U := [[], [], [], [], [], [], [], [], [], [], [], []]) (H := []) hmix (by kernel_rfl) (by decide +kernel) (by kernel_rfl) ?_)
        have : sameE p q = true := by
          rw [sameE, hn, Bool.true_and]
          exact all2_true hl fun j x y hj => hinv j x y (by omega)
        exact ⟨hT, by rw [this]⟩
    · have hl2 : ((p.List.length : Int) != (q.List.length : Int)) = true := by simp; omega
      have hs : sameE p q = false := by rw [sameE, all2_length hl, Bool.and_false]
      repeat' (first
    | simp (implicitDefEqProofs := false) only [push_cast, reduceIte, reduceCtorEq, Nat.reduceAdd, Nat.reduceSub, Nat.reduceEqDiff, Nat.reduceLT, Nat.reduceLeDiff, Nat.reduceBEq, Nat.reduceMul, Int.reduceLT, Int.reduceLE, Int.reduceEq, Int.reduceToNat, Int.reduceMul, Int.reduceNeg, Go.Proofs.Try.f31, g0, g1, g2, g3, hn2, hl2, eE_ty, eE_pl, eE_wk, List.length_map, ap_lo, st_lo, st_ne, st_eq, len_st, st_st, sst, at_set, at_set0, at_set2, at_set20, sst2, List.replicate_succ, List.drop_zero]
    | refine Sp2.f ?_ ?_
    | refine Spl.f ?_ ?_ <;> intro hb
    | refine rq_mk rfl (fun b hb => ?_)
    | refine r_draw (U := [[], [], [], [], [], [], [], [], [], [], [], []]) (H := []) hmix (by kernel_rfl) (by decide +kernel) (by kernel_rfl) ?_)
      all_goals first
        | exact ⟨by simp, by rw [hs]⟩
        | rw [hs]

end Go.Abs
