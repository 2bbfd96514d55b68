/- Sm: a part of the proofs about the tuple space and its bytes. -/
import Derived.Test.YtilfbkhbjkjicaaTo
set_option linter.all false
set_option maxRecDepth 100000
set_option maxHeartbeats 0
namespace Go.Abs
open Go
open Go.Proofs.Try (prog)
/-! ### the same spaces -/

theorem c_EqualFunc_Item {α : Type} (e : α → AV) (l m : List α) {g : FuncId} (p : α → α → Bool) (hl : l.length ≤ 4294967296) (hm : m.length ≤ 4294967296) (hty : ∀ x, tyB prog (e x) 87 = true) (hpl : ∀ x, plainAV (e x) = true) (hwk : ∀ x, wk prog 6 87 (e x) = e x)
    (hp : ∀ x ∈ l, ∀ y ∈ m, Fn prog g [e x, e y] (.bool (p x y))) : Fn prog 79 [.list 87 (l.map e), .list 87 (m.map e), .fn g []] (.bool (all2 p l m)) := by
  refine run_79 rfl fun h => ?_
  by_cases hlen : l.length = m.length
  · repeat' (first
    | simp (implicitDefEqProofs := false) only [push_cast, reduceIte, reduceCtorEq, Nat.reduceAdd, Nat.reduceSub, Nat.reduceEqDiff, Nat.reduceLT, Nat.reduceLeDiff, Nat.reduceBEq, Nat.reduceMul, Int.reduceLT, Int.reduceLE, Int.reduceEq, Int.reduceToNat, Int.reduceMul, Int.reduceNeg, Go.Proofs.Try.f79, List.length_map, eq_len hlen]
    | refine Sp2.f ?_ ?_
    | refine Spl.f ?_ ?_ <;> intro hb
    | refine rq_mk rfl (fun b hb => ?_))
    refine rl_count (fun i a => [(0, .list 87 (l.map e)), (1, .list 87 (m.map e)), (2, .fn g []), (6, .bool false), (7, a 7), (8, a 8), (9, a 9), (14, a 14), (15, .list 87 (l.map e)), (16, .int .i64 l.length), (17, .int .i64 i), (18, a 18), (30, a 30)]) (fun _ g => h ++ g) (fun i => i ≤ l.length ∧ ∀ j x y, j < i → l[j]? = some x → m[j]? = some y → p x y = true) l.length (li_mk rfl ⟨[], (List.append_nil h).symm⟩ ⟨Nat.zero_le _, fun j x y hj => by omega⟩) ?_
    rintro i a g' ⟨hi, hinv⟩
    refine ⟨hi, ?_⟩
    by_cases hlt : i < l.length
    · have hlt' : i < m.length := by omega
      have hx : l[i]? = some l[i] := List.getElem?_eq_getElem hlt
      have hy : m[i]? = some m[i] := List.getElem?_eq_getElem hlt'
      have hi9 : i < 9223372036854775807 := by omega
      repeat' (first
    | simp (implicitDefEqProofs := false) only [push_cast, reduceIte, reduceCtorEq, Nat.reduceAdd, Nat.reduceSub, Nat.reduceEqDiff, Nat.reduceLT, Nat.reduceLeDiff, Nat.reduceBEq, Nat.reduceMul, Int.reduceLT, Int.reduceLE, Int.reduceEq, Int.reduceToNat, Int.reduceMul, Int.reduceNeg, Go.Proofs.Try.f79, hty, hwk, hpl, List.length_map, cast_lt hlt, in_row hlt, in_row hlt', getD_map e hx, getD_map e hy, Int.toNat_natCast, wrap_succ hi9]
    | refine Sp2.f ?_ ?_
    | refine Spl.f ?_ ?_ <;> intro hb
    | refine rq_mk rfl (fun b hb => ?_)
    | refine k_fn (hp l[i] (List.getElem_mem hlt) m[i] (List.getElem_mem hlt')) ?_
    | refine li_mk ?_ ⟨_, rfl⟩ ?_)
      · rw [all2_false hx hy (by simpa using ‹(!p l[i] m[i]) = true›)]
      · exact ⟨hlt, none_before2 hx hy (by simpa using ‹(!p l[i] m[i]) = false›) hinv⟩
    · repeat' (first
    | simp (implicitDefEqProofs := false) only [push_cast, reduceIte, reduceCtorEq, Nat.reduceAdd, Nat.reduceSub, Nat.reduceEqDiff, Nat.reduceLT, Nat.reduceLeDiff, Nat.reduceBEq, Nat.reduceMul, Int.reduceLT, Int.reduceLE, Int.reduceEq, Int.reduceToNat, Int.reduceMul, Int.reduceNeg, Go.Proofs.Try.f79, List.length_map, cast_ge hlt]
    | refine Sp2.f ?_ ?_
    | refine Spl.f ?_ ?_ <;> intro hb
    | refine rq_mk rfl (fun b hb => ?_))
      rw [all2_true hlen fun j x y hj => hinv j x y (by omega)]
  · repeat' (first
    | simp (implicitDefEqProofs := false) only [push_cast, reduceIte, reduceCtorEq, Nat.reduceAdd, Nat.reduceSub, Nat.reduceEqDiff, Nat.reduceLT, Nat.reduceLeDiff, Nat.reduceBEq, Nat.reduceMul, Int.reduceLT, Int.reduceLE, Int.reduceEq, Int.reduceToNat, Int.reduceMul, Int.reduceNeg, Go.Proofs.Try.f79, List.length_map, neq_len hlen]
    | refine Sp2.f ?_ ?_
    | refine Spl.f ?_ ?_ <;> intro hb
    | refine rq_mk rfl (fun b hb => ?_))
    rw [all2_length hlen]

theorem c_EqualFunc_Waiter {α : Type} (e : α → AV) (l m : List α) {g : FuncId} (p : α → α → Bool) (hl : l.length ≤ 4294967296) (hm : m.length ≤ 4294967296) (hty : ∀ x, tyB prog (e x) 89 = true) (hpl : ∀ x, plainAV (e x) = true) (hwk : ∀ x, wk prog 6 89 (e x) = e x)
    (hp : ∀ x ∈ l, ∀ y ∈ m, Fn prog g [e x, e y] (.bool (p x y))) : Fn prog 81 [.list 89 (l.map e), .list 89 (m.map e), .fn g []] (.bool (all2 p l m)) := by
  refine run_81 rfl fun h => ?_
  by_cases hlen : l.length = m.length
  · repeat' (first
    | simp (implicitDefEqProofs := false) only [push_cast, reduceIte, reduceCtorEq, Nat.reduceAdd, Nat.reduceSub, Nat.reduceEqDiff, Nat.reduceLT, Nat.reduceLeDiff, Nat.reduceBEq, Nat.reduceMul, Int.reduceLT, Int.reduceLE, Int.reduceEq, Int.reduceToNat, Int.reduceMul, Int.reduceNeg, Go.Proofs.Try.f81, List.length_map, eq_len hlen]
    | refine Sp2.f ?_ ?_
    | refine Spl.f ?_ ?_ <;> intro hb
    | refine rq_mk rfl (fun b hb => ?_))
    refine rl_count (fun i a => [(0, .list 89 (l.map e)), (1, .list 89 (m.map e)), (2, .fn g []), (6, .bool false), (7, a 7), (8, a 8), (9, a 9), (14, a 14), (15, .list 89 (l.map e)), (16, .int .i64 l.length), (17, .int .i64 i), (18, a 18), (30, a 30)]) (fun _ g => h ++ g) (fun i => i ≤ l.length ∧ ∀ j x y, j < i → l[j]? = some x → m[j]? = some y → p x y = true) l.length (li_mk rfl ⟨[], (List.append_nil h).symm⟩ ⟨Nat.zero_le _, fun j x y hj => by omega⟩) ?_
    rintro i a g' ⟨hi, hinv⟩
    refine ⟨hi, ?_⟩
    by_cases hlt : i < l.length
    · have hlt' : i < m.length := by omega
      have hx : l[i]? = some l[i] := List.getElem?_eq_getElem hlt
      have hy : m[i]? = some m[i] := List.getElem?_eq_getElem hlt'
      have hi9 : i < 9223372036854775807 := by omega
      repeat' (first
    | simp (implicitDefEqProofs := false) only [push_cast, reduceIte, reduceCtorEq, Nat.reduceAdd, Nat.reduceSub, Nat.reduceEqDiff, Nat.reduceLT, Nat.reduceLeDiff, Nat.reduceBEq, Nat.reduceMul, Int.reduceLT, Int.reduceLE, Int.reduceEq, Int.reduceToNat, Int.reduceMul, Int.reduceNeg, Go.Proofs.Try.f81, hty, hwk, hpl, List.length_map, cast_lt hlt, in_row hlt, in_row hlt', getD_map e hx, getD_map e hy, Int.toNat_natCast, wrap_succ hi9]
    | refine Sp2.f ?_ ?_
    | refine Spl.f ?_ ?_ <;> intro hb
    | refine rq_mk rfl (fun b hb => ?_)
    | refine k_fn (hp l[i] (List.getElem_mem hlt) m[i] (List.getElem_mem hlt')) ?_
    | refine li_mk ?_ ⟨_, rfl⟩ ?_)
      · rw [all2_false hx hy (by simpa using ‹(!p l[i] m[i]) = true›)]
      · exact ⟨hlt, none_before2 hx hy (by simpa using ‹(!p l[i] m[i]) = false›) hinv⟩
    · repeat' (first
    | simp (implicitDefEqProofs := false) only [push_cast, reduceIte, reduceCtorEq, Nat.reduceAdd, Nat.reduceSub, Nat.reduceEqDiff, Nat.reduceLT, Nat.reduceLeDiff, Nat.reduceBEq, Nat.reduceMul, Int.reduceLT, Int.reduceLE, Int.reduceEq, Int.reduceToNat, Int.reduceMul, Int.reduceNeg, Go.Proofs.Try.f81, List.length_map, cast_ge hlt]
    | refine Sp2.f ?_ ?_
    | refine Spl.f ?_ ?_ <;> intro hb
    | refine rq_mk rfl (fun b hb => ?_))
      rw [all2_true hlen fun j x y hj => hinv j x y (by omega)]
  · repeat' (first
    | simp (implicitDefEqProofs := false) only [push_cast, reduceIte, reduceCtorEq, Nat.reduceAdd, Nat.reduceSub, Nat.reduceEqDiff, Nat.reduceLT, Nat.reduceLeDiff, Nat.reduceBEq, Nat.reduceMul, Int.reduceLT, Int.reduceLE, Int.reduceEq, Int.reduceToNat, Int.reduceMul, Int.reduceNeg, Go.Proofs.Try.f81, List.length_map, neq_len hlen]
    | refine Sp2.f ?_ ?_
    | refine Spl.f ?_ ?_ <;> intro hb
    | refine rq_mk rfl (fun b hb => ?_))
    rw [all2_length hlen]

theorem c_EqualFunc_Reply {α : Type} (e : α → AV) (l m : List α) {g : FuncId} (p : α → α → Bool) (hl : l.length ≤ 4294967296) (hm : m.length ≤ 4294967296) (hty : ∀ x, tyB prog (e x) 26 = true) (hpl : ∀ x, plainAV (e x) = true) (hwk : ∀ x, wk prog 6 26 (e x) = e x)
    (hp : ∀ x ∈ l, ∀ y ∈ m, Fn prog g [e x, e y] (.bool (p x y))) : Fn prog 83 [.list 26 (l.map e), .list 26 (m.map e), .fn g []] (.bool (all2 p l m)) := by
  refine run_83 rfl fun h => ?_
  by_cases hlen : l.length = m.length
  · repeat' (first
    | simp (implicitDefEqProofs := false) only [push_cast, reduceIte, reduceCtorEq, Nat.reduceAdd, Nat.reduceSub, Nat.reduceEqDiff, Nat.reduceLT, Nat.reduceLeDiff, Nat.reduceBEq, Nat.reduceMul, Int.reduceLT, Int.reduceLE, Int.reduceEq, Int.reduceToNat, Int.reduceMul, Int.reduceNeg, Go.Proofs.Try.f83, List.length_map, eq_len hlen]
    | refine Sp2.f ?_ ?_
    | refine Spl.f ?_ ?_ <;> intro hb
    | refine rq_mk rfl (fun b hb => ?_))
    refine rl_count (fun i a => [(0, .list 26 (l.map e)), (1, .list 26 (m.map e)), (2, .fn g []), (6, .bool false), (7, a 7), (8, a 8), (9, a 9), (14, a 14), (15, .list 26 (l.map e)), (16, .int .i64 l.length), (17, .int .i64 i), (18, a 18), (30, a 30)]) (fun _ g => h ++ g) (fun i => i ≤ l.length ∧ ∀ j x y, j < i → l[j]? = some x → m[j]? = some y → p x y = true) l.length (li_mk rfl ⟨[], (List.append_nil h).symm⟩ ⟨Nat.zero_le _, fun j x y hj => by omega⟩) ?_
    rintro i a g' ⟨hi, hinv⟩
    refine ⟨hi, ?_⟩
    by_cases hlt : i < l.length
    · have hlt' : i < m.length := by omega
      have hx : l[i]? = some l[i] := List.getElem?_eq_getElem hlt
      have hy : m[i]? = some m[i] := List.getElem?_eq_getElem hlt'
      have hi9 : i < 9223372036854775807 := by omega
      repeat' (first
    | simp (implicitDefEqProofs := false) only [push_cast, reduceIte, reduceCtorEq, Nat.reduceAdd, Nat.reduceSub, Nat.reduceEqDiff, Nat.reduceLT, Nat.reduceLeDiff, Nat.reduceBEq, Nat.reduceMul, Int.reduceLT, Int.reduceLE, Int.reduceEq, Int.reduceToNat, Int.reduceMul, Int.reduceNeg, Go.Proofs.Try.f83, hty, hwk, hpl, List.length_map, cast_lt hlt, in_row hlt, in_row hlt', getD_map e hx, getD_map e hy, Int.toNat_natCast, wrap_succ hi9]
    | refine Sp2.f ?_ ?_
    | refine Spl.f ?_ ?_ <;> intro hb
    | refine rq_mk rfl (fun b hb => ?_)
    | refine k_fn (hp l[i] (List.getElem_mem hlt) m[i] (List.getElem_mem hlt')) ?_
    | refine li_mk ?_ ⟨_, rfl⟩ ?_)
      · rw [all2_false hx hy (by simpa using ‹(!p l[i] m[i]) = true›)]
      · exact ⟨hlt, none_before2 hx hy (by simpa using ‹(!p l[i] m[i]) = false›) hinv⟩
    · repeat' (first
    | simp (implicitDefEqProofs := false) only [push_cast, reduceIte, reduceCtorEq, Nat.reduceAdd, Nat.reduceSub, Nat.reduceEqDiff, Nat.reduceLT, Nat.reduceLeDiff, Nat.reduceBEq, Nat.reduceMul, Int.reduceLT, Int.reduceLE, Int.reduceEq, Int.reduceToNat, Int.reduceMul, Int.reduceNeg, Go.Proofs.Try.f83, List.length_map, cast_ge hlt]
    | refine Sp2.f ?_ ?_
    | refine Spl.f ?_ ?_ <;> intro hb
    | refine rq_mk rfl (fun b hb => ?_))
      rw [all2_true hlen fun j x y hj => hinv j x y (by omega)]
  · repeat' (first
    | simp (implicitDefEqProofs := false) only [push_cast, reduceIte, reduceCtorEq, Nat.reduceAdd, Nat.reduceSub, Nat.reduceEqDiff, Nat.reduceLT, Nat.reduceLeDiff, Nat.reduceBEq, Nat.reduceMul, Int.reduceLT, Int.reduceLE, Int.reduceEq, Int.reduceToNat, Int.reduceMul, Int.reduceNeg, Go.Proofs.Try.f83, List.length_map, neq_len hlen]
    | refine Sp2.f ?_ ?_
    | refine Spl.f ?_ ?_ <;> intro hb
    | refine rq_mk rfl (fun b hb => ?_))
    rw [all2_length hlen]

def smI (x y : Itm) : Bool := x.Owner == y.Owner && (x.Until == y.Until && sameT x.T y.T)
def smW (x y : Wtr) : Bool := x.Client == y.Client && (x.Seq == y.Seq && (x.Take == y.Take && sameT x.P y.P))
def smR (x y : Rpl) : Bool := x.Client == y.Client && (x.Seq == y.Seq && (x.Kind == y.Kind && (x.Late == y.Late && sameT x.T y.T)))
theorem c_sameItem (x y : Itm) (hx : x.T.length ≤ 4294967296) (hy : y.T.length ≤ 4294967296) : Fn prog 80 [eI x, eI y] (.bool (smI x y)) := by
  refine run_80 rfl fun h => ?_
  repeat' (first
    | simp (implicitDefEqProofs := false) only [push_cast, reduceIte, reduceCtorEq, Nat.reduceAdd, Nat.reduceSub, Nat.reduceEqDiff, Nat.reduceLT, Nat.reduceLeDiff, Nat.reduceBEq, Nat.reduceMul, Int.reduceLT, Int.reduceLE, Int.reduceEq, Int.reduceToNat, Int.reduceMul, Int.reduceNeg, Go.Proofs.Try.f80, eI, eFs]
    | refine Sp2.f ?_ ?_
    | refine Spl.f ?_ ?_ <;> intro hb
    | refine rq_mk rfl (fun b hb => ?_)
    | refine k_fn (c_tupleSame x.T y.T hx hy) ?_)
  all_goals (simp only [smI, *, Bool.true_and, Bool.false_and])
theorem c_sameWaiter (x y : Wtr) (hx : x.P.length ≤ 4294967296) (hy : y.P.length ≤ 4294967296) : Fn prog 82 [eW x, eW y] (.bool (smW x y)) := by
  refine run_82 rfl fun h => ?_
  repeat' (first
    | simp (implicitDefEqProofs := false) only [push_cast, reduceIte, reduceCtorEq, Nat.reduceAdd, Nat.reduceSub, Nat.reduceEqDiff, Nat.reduceLT, Nat.reduceLeDiff, Nat.reduceBEq, Nat.reduceMul, Int.reduceLT, Int.reduceLE, Int.reduceEq, Int.reduceToNat, Int.reduceMul, Int.reduceNeg, Go.Proofs.Try.f82, eW, eFs]
    | refine Sp2.f ?_ ?_
    | refine Spl.f ?_ ?_ <;> intro hb
    | refine rq_mk rfl (fun b hb => ?_)
    | refine k_fn (c_tupleSame x.P y.P hx hy) ?_)
  all_goals (simp only [smW, *, Bool.true_and, Bool.false_and])
theorem c_sameReply (x y : Rpl) (hx : x.T.length ≤ 4294967296) (hy : y.T.length ≤ 4294967296) : Fn prog 84 [eR x, eR y] (.bool (smR x y)) := by
  refine run_84 rfl fun h => ?_
  repeat' (first
    | simp (implicitDefEqProofs := false) only [push_cast, reduceIte, reduceCtorEq, Nat.reduceAdd, Nat.reduceSub, Nat.reduceEqDiff, Nat.reduceLT, Nat.reduceLeDiff, Nat.reduceBEq, Nat.reduceMul, Int.reduceLT, Int.reduceLE, Int.reduceEq, Int.reduceToNat, Int.reduceMul, Int.reduceNeg, Go.Proofs.Try.f84, eR, eFs]
    | refine Sp2.f ?_ ?_
    | refine Spl.f ?_ ?_ <;> intro hb
    | refine rq_mk rfl (fun b hb => ?_)
    | refine k_fn (c_tupleSame x.T y.T hx hy) ?_)
  all_goals (simp only [smR, *, Bool.true_and, Bool.false_and])
theorem eR_wk6 (x : Rpl) : wk prog 6 26 (eR x) = eR x := eR_wk 4 x
def sameS (a b : Spc) : Bool := a.Now == b.Now && (a.Read == b.Read && (a.Write == b.Write && (all2 smI a.Items b.Items && (all2 smW a.Waiters b.Waiters && all2 smR a.Last b.Last))))
theorem c_sSame (a b : Spc) (ha : a.Small) (hb : b.Small) : Fn prog 25 [eS a, eS b] (.bool (sameS a b)) := by
  have h1 := c_EqualFunc_Item eI a.Items b.Items (g := 80) smI ha.items.1 hb.items.1 eI_ty eI_pl eI_wk fun x hx y hy => c_sameItem x y (ha.items.2 x hx) (hb.items.2 y hy)
  have h2 := c_EqualFunc_Waiter eW a.Waiters b.Waiters (g := 82) smW ha.waiters.1 hb.waiters.1 eW_ty eW_pl eW_wk fun x hx y hy => c_sameWaiter x y (ha.waiters.2 x hx) (hb.waiters.2 y hy)
  have h3 := c_EqualFunc_Reply eR a.Last b.Last (g := 84) smR ha.last.1 hb.last.1 eR_ty eR_pl eR_wk6 fun x hx y hy => c_sameReply x y (ha.last.2 x hx) (hb.last.2 y hy)
  refine run_25 rfl fun h => ?_
  have la : a.Last.length = 4 := ha.four
  have lb : b.Last.length = 4 := hb.four
  have w1 : winGet [eS a] [0, 5] 0 4 = some (a.Last.map eR) := by
    simp only [winGet, getE, getP, eS, eL, List.getElem?_cons_zero, List.getElem?_cons_succ, List.length_map, la, Nat.zero_add, Nat.le_refl, if_true, List.drop_zero]
    rw [List.take_of_length_le (by simp [la])]
  have w2 : winGet [eS b] [0, 5] 0 4 = some (b.Last.map eR) := by
    simp only [winGet, getE, getP, eS, eL, List.getElem?_cons_zero, List.getElem?_cons_succ, List.length_map, lb, Nat.zero_add, Nat.le_refl, if_true, List.drop_zero]
    rw [List.take_of_length_le (by simp [lb])]
  have da := datL_map eR eR_dat a.Last
  have db := datL_map eR eR_dat b.Last
  have hI : (0 ≤ (0 : Int) ∧ (0 : Int) ≤ 4 ∧ (4 : Int) ≤ 4) = True := by simp
  repeat' (first
    | simp (implicitDefEqProofs := false) only [push_cast, reduceIte, reduceCtorEq, Nat.reduceAdd, Nat.reduceSub, Nat.reduceEqDiff, Nat.reduceLT, Nat.reduceLeDiff, Nat.reduceBEq, Nat.reduceMul, Int.reduceLT, Int.reduceLE, Int.reduceEq, Int.reduceToNat, Int.reduceMul, Int.reduceNeg, Go.Proofs.Try.f25, eS, eIs, eWs, eL, cast0, cast4, hI, Nat.sub_zero, ap_lo, st_lo, st_ne, st_eq, len_st, st_st, sst, at_set, at_set0, at_set2, at_set20, sst2, List.replicate_succ, List.drop_zero]
    | refine Sp2.f ?_ ?_
    | refine Spl.f ?_ ?_ <;> intro hb
    | refine rq_mk rfl (fun b hb => ?_)
    | refine r_draw (U := [[], [], [], [], [], [], [], [], [], [], [], [], [], [], [], [], [], [], [], [], [], [], [], [], [], [], [], [], [], [], [], [], [], [], [], [], [], [35], [], [], []]) (H := []) hmix (by kernel_rfl) (by decide +kernel) (by kernel_rfl) ?_
    | refine dk_pure h1 ?_
    | refine dk_pure h2 ?_
    | refine dk_borrow wfp (args' := [.list 26 (a.Last.map eR), .list 26 (b.Last.map eR), .fn 84 []]) ?_ h3 ?_ rfl ?_)
  all_goals first
    | (simp only [List.map_cons, List.map_nil, bw_winE, get_at0, get_at, List.getElem?_cons_zero, List.getElem?_cons_succ, bwWin_own]
       change [bwWinO _ _ _ (winGet [eS a] [0, 5] 0 4), bwWinO _ _ _ (winGet [eS b] [0, 5] 0 4), bw _ 8 (AV.fn _ [])] = _
       rw [w1, w2, bwWinO_some, bwWinO_some, datL_bw _ _ da, datL_bw _ _ db]; rfl)
    | (simp only [List.all_cons, List.all_nil, below, belowL, datL_below _ da, datL_below _ db, Bool.and_self]; done)
    | (simp only [sameS, *, Bool.true_and, Bool.false_and]; done)
    | skip

end Go.Abs
