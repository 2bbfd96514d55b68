/- Gk: a part of the proofs about the tuple space and its bytes. -/
import Derived.Test.YtilfbkhbjkjicaaSy
set_option linter.all false
set_option maxRecDepth 100000
set_option maxHeartbeats 0
namespace Go.Abs
open Go
open Go.Proofs.Try (prog)
/-! ### the form of a key -/
def kd4 (a b c d : Int) : AV := .agg 194 [.int .i64 a, .int .i64 b, .int .i64 c, .int .i64 d]
def kdsV : AV := .agg 195 [kd4 1 1 265 7, kd4 2 2 133 6, kd4 4 3 67 4, kd4 8 4 34 0]
theorem kdsV_dat : dat kdsV = true := by simp [kdsV, kd4, dat_agg, datL_cons, datL_nil, dat_int]
theorem c_kinds : Fn prog 169 [] kdsV := by
  refine run_169 rfl fun h => ?_
  repeat' (first
    | simp (implicitDefEqProofs := false) only [push_cast, reduceIte, reduceCtorEq, Nat.reduceAdd, Nat.reduceSub, Nat.reduceEqDiff, Nat.reduceLT, Nat.reduceLeDiff, Nat.reduceBEq, Nat.reduceMul, Int.reduceLT, Int.reduceLE, Int.reduceEq, Int.reduceToNat, Int.reduceMul, Int.reduceNeg, Go.Proofs.Try.f169, ap_lo, st_lo, st_ne, st_eq, len_st, st_st, sst, at_set, at_set0, at_set2, List.replicate_succ, List.drop_zero]
    | refine Sp2.f ?_ ?_
    | refine Spl.f ?_ ?_ <;> intro hb
    | refine rq_mk rfl (fun b hb => ?_))
  exact res_mk kdsV_dat rfl
def wds : List Int := [1, 2, 4, 8]
def codeW (w : Int) : Int := if w = 1 then 1 else if w = 2 then 2 else if w = 4 then 3 else if w = 8 then 4 else 0
theorem four5 {i : Nat} (h : i ≤ 4) : i = 0 ∨ i = 1 ∨ i = 2 ∨ i = 3 ∨ i = 4 := by omega
theorem c0N : ((0 : Nat) : Int) = 0 := rfl
theorem c1N : ((1 : Nat) : Int) = 1 := rfl
theorem c2N : ((2 : Nat) : Int) = 2 := rfl
theorem c3N : ((3 : Nat) : Int) = 3 := rfl
theorem c4N : ((4 : Nat) : Int) = 4 := rfl
def ofW (w : Int) : AV := if w = 1 then kd4 1 1 265 7 else if w = 2 then kd4 2 2 133 6 else if w = 4 then kd4 4 3 67 4 else if w = 8 then kd4 8 4 34 0 else kd4 0 0 0 0
theorem nb_step {i : Nat} {w v : Int} (h : ∀ j x, j < i → wds[j]? = some x → x ≠ w) (hv : wds[i]? = some v) (hn : ¬ v = w) : ∀ j x, j < i + 1 → wds[j]? = some x → x ≠ w := by
  intro j x hj hx
  by_cases e : j = i
  · subst e; rw [hv] at hx; cases hx; exact hn
  · exact h j x (by omega) hx
theorem c_of (w : Int) (hw : w ∈ wds) : Fn prog 170 [.int .i64 w] (.tup [ofW w, .bool true]) := by
  refine pure_wk_tup (R := fun r => r = .tup [ofW w, .bool true]) [194, 4] (fn_tup wfp fun h => ?_) ?_
  rotate_left
  · rintro r rfl
    simp only [wds, List.mem_cons, List.not_mem_nil, or_false] at hw
    rcases hw with rfl | rfl | rfl | rfl
    all_goals exact ⟨_, rfl, ⟨rfl, rfl, trivial⟩, rfl⟩
  refine frun_170 rfl ?_
  repeat' (first
    | simp (implicitDefEqProofs := false) only [push_cast, reduceIte, reduceCtorEq, Nat.reduceAdd, Nat.reduceSub, Nat.reduceEqDiff, Nat.reduceLT, Nat.reduceLeDiff, Nat.reduceBEq, Nat.reduceMul, Int.reduceLT, Int.reduceLE, Int.reduceEq, Int.reduceToNat, Int.reduceMul, Int.reduceNeg, Go.Proofs.Try.f170, kdsV, kd4, ap_lo, st_lo, st_ne, st_eq, len_st, st_st, sst, at_set, at_set0, at_set2, List.replicate_succ, List.drop_zero]
    | refine Sp2.f ?_ ?_
    | refine Spl.f ?_ ?_ <;> intro hb
    | refine rq_mk rfl (fun b hb => ?_)
    | refine k_fn c_kinds ?_)
  refine rl_count (fun i a => [(0, .int .i64 w), (2, .ref h.length [0] 194), (3, .bool false), (5, a 5), (6, kdsV), (7, .int .i64 i), (8, a 8), (13, a 13)]) (fun _ g => h ++ (⟨194, [kd4 0 0 0 0], .own⟩ :: g)) (fun i => i ≤ 4 ∧ ∀ j x, j < i → wds[j]? = some x → x ≠ w) 4 (li_mk rfl ⟨[], rfl⟩ ⟨Nat.zero_le _, fun j x hj => absurd hj (Nat.not_lt_zero j)⟩) ?_
  rintro i a g ⟨hi, hinv⟩
  refine ⟨hi, ?_⟩
  rcases four5 hi with rfl | rfl | rfl | rfl | rfl
  · by_cases e : (1 : Int) = w
    · subst e
      have bq : ((1 : Int) == 1) = true := rfl
      repeat' (first
    | simp (implicitDefEqProofs := false) only [push_cast, reduceIte, reduceCtorEq, Nat.reduceAdd, Nat.reduceSub, Nat.reduceEqDiff, Nat.reduceLT, Nat.reduceLeDiff, Nat.reduceBEq, Nat.reduceMul, Int.reduceLT, Int.reduceLE, Int.reduceEq, Int.reduceToNat, Int.reduceMul, Int.reduceNeg, Go.Proofs.Try.f170, kdsV, kd4, c0N, c1N, c2N, c3N, c4N, bq, List.getD_cons_zero, List.getD_cons_succ, fk_ct, fk_cell, ap_lo, st_lo, st_ne, st_eq, len_st, st_st, sst, at_set, at_set0, at_set2, List.replicate_succ, List.drop_zero]
    | refine Sp2.f ?_ ?_
    | refine Spl.f ?_ ?_ <;> intro hb
    | refine rq_mk rfl (fun b hb => ?_))
      exact ⟨_, rfl, rfl, rfl⟩
    · have bq : ((1 : Int) == w) = false := by simpa using e
      repeat' (first
    | simp (implicitDefEqProofs := false) only [push_cast, reduceIte, reduceCtorEq, Nat.reduceAdd, Nat.reduceSub, Nat.reduceEqDiff, Nat.reduceLT, Nat.reduceLeDiff, Nat.reduceBEq, Nat.reduceMul, Int.reduceLT, Int.reduceLE, Int.reduceEq, Int.reduceToNat, Int.reduceMul, Int.reduceNeg, Go.Proofs.Try.f170, kdsV, kd4, c0N, c1N, c2N, c3N, c4N, bq, List.getD_cons_zero, List.getD_cons_succ, ap_lo, st_lo, st_ne, st_eq, len_st, st_st, sst, at_set, at_set0, at_set2, List.replicate_succ, List.drop_zero]
    | refine Sp2.f ?_ ?_
    | refine Spl.f ?_ ?_ <;> intro hb
    | refine rq_mk rfl (fun b hb => ?_)
    | refine li_mk ?_ ⟨_, rfl⟩ ?_)
      · rfl
      · exact nb_step hinv rfl e
  · by_cases e : (2 : Int) = w
    · subst e
      have bq : ((2 : Int) == 2) = true := rfl
      repeat' (first
    | simp (implicitDefEqProofs := false) only [push_cast, reduceIte, reduceCtorEq, Nat.reduceAdd, Nat.reduceSub, Nat.reduceEqDiff, Nat.reduceLT, Nat.reduceLeDiff, Nat.reduceBEq, Nat.reduceMul, Int.reduceLT, Int.reduceLE, Int.reduceEq, Int.reduceToNat, Int.reduceMul, Int.reduceNeg, Go.Proofs.Try.f170, kdsV, kd4, c0N, c1N, c2N, c3N, c4N, bq, List.getD_cons_zero, List.getD_cons_succ, fk_ct, fk_cell, ap_lo, st_lo, st_ne, st_eq, len_st, st_st, sst, at_set, at_set0, at_set2, List.replicate_succ, List.drop_zero]
    | refine Sp2.f ?_ ?_
    | refine Spl.f ?_ ?_ <;> intro hb
    | refine rq_mk rfl (fun b hb => ?_))
      exact ⟨_, rfl, rfl, rfl⟩
    · have bq : ((2 : Int) == w) = false := by simpa using e
      repeat' (first
    | simp (implicitDefEqProofs := false) only [push_cast, reduceIte, reduceCtorEq, Nat.reduceAdd, Nat.reduceSub, Nat.reduceEqDiff, Nat.reduceLT, Nat.reduceLeDiff, Nat.reduceBEq, Nat.reduceMul, Int.reduceLT, Int.reduceLE, Int.reduceEq, Int.reduceToNat, Int.reduceMul, Int.reduceNeg, Go.Proofs.Try.f170, kdsV, kd4, c0N, c1N, c2N, c3N, c4N, bq, List.getD_cons_zero, List.getD_cons_succ, ap_lo, st_lo, st_ne, st_eq, len_st, st_st, sst, at_set, at_set0, at_set2, List.replicate_succ, List.drop_zero]
    | refine Sp2.f ?_ ?_
    | refine Spl.f ?_ ?_ <;> intro hb
    | refine rq_mk rfl (fun b hb => ?_)
    | refine li_mk ?_ ⟨_, rfl⟩ ?_)
      · rfl
      · exact nb_step hinv rfl e
  · by_cases e : (4 : Int) = w
    · subst e
      have bq : ((4 : Int) == 4) = true := rfl
      repeat' (first
    | simp (implicitDefEqProofs := false) only [push_cast, reduceIte, reduceCtorEq, Nat.reduceAdd, Nat.reduceSub, Nat.reduceEqDiff, Nat.reduceLT, Nat.reduceLeDiff, Nat.reduceBEq, Nat.reduceMul, Int.reduceLT, Int.reduceLE, Int.reduceEq, Int.reduceToNat, Int.reduceMul, Int.reduceNeg, Go.Proofs.Try.f170, kdsV, kd4, c0N, c1N, c2N, c3N, c4N, bq, List.getD_cons_zero, List.getD_cons_succ, fk_ct, fk_cell, ap_lo, st_lo, st_ne, st_eq, len_st, st_st, sst, at_set, at_set0, at_set2, List.replicate_succ, List.drop_zero]
    | refine Sp2.f ?_ ?_
    | refine Spl.f ?_ ?_ <;> intro hb
    | refine rq_mk rfl (fun b hb => ?_))
      exact ⟨_, rfl, rfl, rfl⟩
    · have bq : ((4 : Int) == w) = false := by simpa using e
      repeat' (first
    | simp (implicitDefEqProofs := false) only [push_cast, reduceIte, reduceCtorEq, Nat.reduceAdd, Nat.reduceSub, Nat.reduceEqDiff, Nat.reduceLT, Nat.reduceLeDiff, Nat.reduceBEq, Nat.reduceMul, Int.reduceLT, Int.reduceLE, Int.reduceEq, Int.reduceToNat, Int.reduceMul, Int.reduceNeg, Go.Proofs.Try.f170, kdsV, kd4, c0N, c1N, c2N, c3N, c4N, bq, List.getD_cons_zero, List.getD_cons_succ, ap_lo, st_lo, st_ne, st_eq, len_st, st_st, sst, at_set, at_set0, at_set2, List.replicate_succ, List.drop_zero]
    | refine Sp2.f ?_ ?_
    | refine Spl.f ?_ ?_ <;> intro hb
    | refine rq_mk rfl (fun b hb => ?_)
    | refine li_mk ?_ ⟨_, rfl⟩ ?_)
      · rfl
      · exact nb_step hinv rfl e
  · by_cases e : (8 : Int) = w
    · subst e
      have bq : ((8 : Int) == 8) = true := rfl
      repeat' (first
    | simp (implicitDefEqProofs := false) only [push_cast, reduceIte, reduceCtorEq, Nat.reduceAdd, Nat.reduceSub, Nat.reduceEqDiff, Nat.reduceLT, Nat.reduceLeDiff, Nat.reduceBEq, Nat.reduceMul, Int.reduceLT, Int.reduceLE, Int.reduceEq, Int.reduceToNat, Int.reduceMul, Int.reduceNeg, Go.Proofs.Try.f170, kdsV, kd4, c0N, c1N, c2N, c3N, c4N, bq, List.getD_cons_zero, List.getD_cons_succ, fk_ct, fk_cell, ap_lo, st_lo, st_ne, st_eq, len_st, st_st, sst, at_set, at_set0, at_set2, List.replicate_succ, List.drop_zero]
    | refine Sp2.f ?_ ?_
    | refine Spl.f ?_ ?_ <;> intro hb
    | refine rq_mk rfl (fun b hb => ?_))
      exact ⟨_, rfl, rfl, rfl⟩
    · have bq : ((8 : Int) == w) = false := by simpa using e
      repeat' (first
    | simp (implicitDefEqProofs := false) only [push_cast, reduceIte, reduceCtorEq, Nat.reduceAdd, Nat.reduceSub, Nat.reduceEqDiff, Nat.reduceLT, Nat.reduceLeDiff, Nat.reduceBEq, Nat.reduceMul, Int.reduceLT, Int.reduceLE, Int.reduceEq, Int.reduceToNat, Int.reduceMul, Int.reduceNeg, Go.Proofs.Try.f170, kdsV, kd4, c0N, c1N, c2N, c3N, c4N, bq, List.getD_cons_zero, List.getD_cons_succ, ap_lo, st_lo, st_ne, st_eq, len_st, st_st, sst, at_set, at_set0, at_set2, List.replicate_succ, List.drop_zero]
    | refine Sp2.f ?_ ?_
    | refine Spl.f ?_ ?_ <;> intro hb
    | refine rq_mk rfl (fun b hb => ?_)
    | refine li_mk ?_ ⟨_, rfl⟩ ?_)
      · rfl
      · exact nb_step hinv rfl e
  · exfalso
    simp only [wds, List.mem_cons, List.not_mem_nil, or_false] at hw
    rcases hw with rfl | rfl | rfl | rfl
    · exact hinv 0 _ (by omega) rfl rfl
    · exact hinv 1 _ (by omega) rfl rfl
    · exact hinv 2 _ (by omega) rfl rfl
    · exact hinv 3 _ (by omega) rfl rfl
theorem c_Code (w : Int) (hw : w ∈ wds) : Fn prog 157 [.int .i64 w] (.int .i64 (codeW w)) := by
  have h0 := c_of w hw
  have hg : getP (ofW w) [1] = some (.int .i64 (codeW w)) := by
    simp only [wds, List.mem_cons, List.not_mem_nil, or_false] at hw
    rcases hw with rfl | rfl | rfl | rfl <;> rfl
  have ht : tyB prog (ofW w) 194 = true := by
    simp only [wds, List.mem_cons, List.not_mem_nil, or_false] at hw
    rcases hw with rfl | rfl | rfl | rfl <;> rfl
  refine run_157 rfl fun h => ?_
  repeat' (first
    | simp (implicitDefEqProofs := false) only [push_cast, reduceIte, reduceCtorEq, Nat.reduceAdd, Nat.reduceSub, Nat.reduceEqDiff, Nat.reduceLT, Nat.reduceLeDiff, Nat.reduceBEq, Nat.reduceMul, Int.reduceLT, Int.reduceLE, Int.reduceEq, Int.reduceToNat, Int.reduceMul, Int.reduceNeg, Go.Proofs.Try.f157, hg, ht, ap_lo, st_lo, st_ne, st_eq, len_st, st_st, sst, at_set, at_set0, at_set2, List.replicate_succ, List.drop_zero]
    | refine Sp2.f ?_ ?_
    | refine Spl.f ?_ ?_ <;> intro hb
    | refine rq_mk rfl (fun b hb => ?_)
    | refine k_fn h0 ?_)
theorem View.cons {X : Nat → Prop} {h : List Entry} {T : TypeId} {v : AV} {l : List AV} (hv : View X h T v l) (hl : l ≠ []) : ∃ k lo z, v = .win k [] T 0 l.length lo ∧ X k ∧ h[k]? = some ⟨T, l ++ z, .own⟩ := by
  cases hv with
  | nil => exact absurd rfl hl
  | win hx hk => exact ⟨_, _, _, rfl, hx, hk⟩
theorem tk_of {h H H6 l : List Entry} {T : TypeId} (hT : H.take h.length = h) (hl : h.length ≤ H.length) (hk : ∀ j e, (H ++ l)[j]? = some e → (¬ h.length ≤ j ∨ e.T ≠ T) → H6[j]? = some e) : H6.take h.length = h := by
  conv => rhs; rw [← hT]
  apply List.ext_getElem?
  intro j
  rw [List.getElem?_take, List.getElem?_take]
  split
  · rename_i hj
    rw [List.getElem?_eq_getElem (show j < H.length by omega)]
    exact hk j _ (by rw [List.getElem?_append_left (by omega)]; exact List.getElem?_eq_getElem _) (.inl (by omega))
  · rfl
theorem c_Types : Fn prog 156 [] (.list 3 (wds.map (.int .i64))) := by
  refine run_156 rfl fun h => ?_
  repeat' (first
    | simp (implicitDefEqProofs := false) only [push_cast, reduceIte, reduceCtorEq, Nat.reduceAdd, Nat.reduceSub, Nat.reduceEqDiff, Nat.reduceLT, Nat.reduceLeDiff, Nat.reduceBEq, Nat.reduceMul, Int.reduceLT, Int.reduceLE, Int.reduceEq, Int.reduceToNat, Int.reduceMul, Int.reduceNeg, Go.Proofs.Try.f156, ap_lo, st_lo, st_ne, st_eq, len_st, st_st, sst, at_set, at_set0, at_set2, List.replicate_succ, List.drop_zero]
    | refine Sp2.f ?_ ?_
    | refine Spl.f ?_ ?_ <;> intro hb
    | refine rq_mk rfl (fun b hb => ?_)
    | refine k_fn c_kinds ?_)
  refine rl_gen (fun i env' H => i ≤ 4 ∧ H.take h.length = h ∧ ∃ v, View (fun j => h.length ≤ j) H 3 v ((wds.take i).map (.int .i64)) ∧ env' = (fun a : Nat → AV => [(0, .nils), (1, v), (3, a 3), (4, kdsV), (5, .int .i64 (i : Int)), (6, a 6)]) (lk env')) 4 ⟨Nat.zero_le _, by simp, .nils, .nil, rfl⟩ ?_
  rintro i env H ⟨hi, hT, v, hv, henv⟩
  refine ⟨hi, ?_⟩
  rw [henv]
  generalize lk env = a
  clear henv env
  have hHl : h.length ≤ H.length := by have := congrArg List.length hT; simp at this; omega
  have la := hv.lenAV
  by_cases h4 : i < 4
  · obtain ⟨w, hw⟩ : ∃ w, wds[i]? = some w := ⟨_, List.getElem?_eq_getElem (by simpa [wds] using h4)⟩
    have la2 : lenAV v = i := by rw [la]; simp [wds]; omega
    have e7 : decide (i + 1 ≤ 4294967296) = true := by simp; omega
    rcases (show i = 0 ∨ i = 1 ∨ i = 2 ∨ i = 3 by omega) with rfl | rfl | rfl | rfl
    · cases hw
      obtain ⟨v6, H6, hv6, hl6, hk6, hgo⟩ := rh_app (P := prog) (.int .i64 1) ((hv.app [(⟨194, [kd4 1 1 265 7], .own⟩ : Entry)]).app [(⟨3, [.int .i64 1], .own⟩ : Entry)])
      have hlen : ((H ++ [(⟨194, [kd4 1 1 265 7], .own⟩ : Entry)]) ++ [(⟨3, [.int .i64 1], .own⟩ : Entry)]).length = H.length + 2 := by simp
      rw [hlen, List.append_assoc, List.cons_append, List.nil_append] at hgo
      repeat' (first
    | simp (implicitDefEqProofs := false) only [push_cast, reduceIte, reduceCtorEq, Nat.reduceAdd, Nat.reduceSub, Nat.reduceEqDiff, Nat.reduceLT, Nat.reduceLeDiff, Nat.reduceBEq, Nat.reduceMul, Int.reduceLT, Int.reduceLE, Int.reduceEq, Int.reduceToNat, Int.reduceMul, Int.reduceNeg, Go.Proofs.Try.f156, kdsV, kd4, c0N, c1N, c2N, c3N, c4N, List.getD_cons_zero, List.getD_cons_succ, la2, e7, ap_lo, st_lo, st_ne, st_eq, len_st, st_st, sst, at_set, at_set0, at_set2, List.replicate_succ, List.drop_zero]
    | refine Sp2.f ?_ ?_
    | refine Spl.f ?_ ?_ <;> intro hb
    | refine rq_mk rfl (fun b hb => ?_)
    | refine hgo _ _ _ _ ?_)
      rw [List.append_assoc] at hk6
      exact ⟨tk_of hT hHl hk6, v6, hv6.up fun j hj => hj.elim id fun a => by have := a.1; simp at this; omega, rfl⟩
    · cases hw
      obtain ⟨v6, H6, hv6, hl6, hk6, hgo⟩ := rh_app (P := prog) (.int .i64 2) ((hv.app [(⟨194, [kd4 2 2 133 6], .own⟩ : Entry)]).app [(⟨3, [.int .i64 2], .own⟩ : Entry)])
      have hlen : ((H ++ [(⟨194, [kd4 2 2 133 6], .own⟩ : Entry)]) ++ [(⟨3, [.int .i64 2], .own⟩ : Entry)]).length = H.length + 2 := by simp
      rw [hlen, List.append_assoc, List.cons_append, List.nil_append] at hgo
      repeat' (first
    | simp (implicitDefEqProofs := false) only [push_cast, reduceIte, reduceCtorEq, Nat.reduceAdd, Nat.reduceSub, Nat.reduceEqDiff, Nat.reduceLT, Nat.reduceLeDiff, Nat.reduceBEq, Nat.reduceMul, Int.reduceLT, Int.reduceLE, Int.reduceEq, Int.reduceToNat, Int.reduceMul, Int.reduceNeg, Go.Proofs.Try.f156, kdsV, kd4, c0N, c1N, c2N, c3N, c4N, List.getD_cons_zero, List.getD_cons_succ, la2, e7, ap_lo, st_lo, st_ne, st_eq, len_st, st_st, sst, at_set, at_set0, at_set2, List.replicate_succ, List.drop_zero]
    | refine Sp2.f ?_ ?_
    | refine Spl.f ?_ ?_ <;> intro hb
    | refine rq_mk rfl (fun b hb => ?_)
    | refine hgo _ _ _ _ ?_)
      rw [List.append_assoc] at hk6
      exact ⟨tk_of hT hHl hk6, v6, hv6.up fun j hj => hj.elim id fun a => by have := a.1; simp at this; omega, rfl⟩
    · cases hw
      obtain ⟨v6, H6, hv6, hl6, hk6, hgo⟩ := rh_app (P := prog) (.int .i64 4) ((hv.app [(⟨194, [kd4 4 3 67 4], .own⟩ : Entry)]).app [(⟨3, [.int .i64 4], .own⟩ : Entry)])
      have hlen : ((H ++ [(⟨194, [kd4 4 3 67 4], .own⟩ : Entry)]) ++ [(⟨3, [.int .i64 4], .own⟩ : Entry)]).length = H.length + 2 := by simp
      rw [hlen, List.append_assoc, List.cons_append, List.nil_append] at hgo
      repeat' (first
    | simp (implicitDefEqProofs := false) only [push_cast, reduceIte, reduceCtorEq, Nat.reduceAdd, Nat.reduceSub, Nat.reduceEqDiff, Nat.reduceLT, Nat.reduceLeDiff, Nat.reduceBEq, Nat.reduceMul, Int.reduceLT, Int.reduceLE, Int.reduceEq, Int.reduceToNat, Int.reduceMul, Int.reduceNeg, Go.Proofs.Try.f156, kdsV, kd4, c0N, c1N, c2N, c3N, c4N, List.getD_cons_zero, List.getD_cons_succ, la2, e7, ap_lo, st_lo, st_ne, st_eq, len_st, st_st, sst, at_set, at_set0, at_set2, List.replicate_succ, List.drop_zero]
    | refine Sp2.f ?_ ?_
    | refine Spl.f ?_ ?_ <;> intro hb
    | refine rq_mk rfl (fun b hb => ?_)
    | refine hgo _ _ _ _ ?_)
      rw [List.append_assoc] at hk6
      exact ⟨tk_of hT hHl hk6, v6, hv6.up fun j hj => hj.elim id fun a => by have := a.1; simp at this; omega, rfl⟩
    · cases hw
      obtain ⟨v6, H6, hv6, hl6, hk6, hgo⟩ := rh_app (P := prog) (.int .i64 8) ((hv.app [(⟨194, [kd4 8 4 34 0], .own⟩ : Entry)]).app [(⟨3, [.int .i64 8], .own⟩ : Entry)])
      have hlen : ((H ++ [(⟨194, [kd4 8 4 34 0], .own⟩ : Entry)]) ++ [(⟨3, [.int .i64 8], .own⟩ : Entry)]).length = H.length + 2 := by simp
      rw [hlen, List.append_assoc, List.cons_append, List.nil_append] at hgo
      repeat' (first
    | simp (implicitDefEqProofs := false) only [push_cast, reduceIte, reduceCtorEq, Nat.reduceAdd, Nat.reduceSub, Nat.reduceEqDiff, Nat.reduceLT, Nat.reduceLeDiff, Nat.reduceBEq, Nat.reduceMul, Int.reduceLT, Int.reduceLE, Int.reduceEq, Int.reduceToNat, Int.reduceMul, Int.reduceNeg, Go.Proofs.Try.f156, kdsV, kd4, c0N, c1N, c2N, c3N, c4N, List.getD_cons_zero, List.getD_cons_succ, la2, e7, ap_lo, st_lo, st_ne, st_eq, len_st, st_st, sst, at_set, at_set0, at_set2, List.replicate_succ, List.drop_zero]
    | refine Sp2.f ?_ ?_
    | refine Spl.f ?_ ?_ <;> intro hb
    | refine rq_mk rfl (fun b hb => ?_)
    | refine hgo _ _ _ _ ?_)
      rw [List.append_assoc] at hk6
      exact ⟨tk_of hT hHl hk6, v6, hv6.up fun j hj => hj.elim id fun a => by have := a.1; simp at this; omega, rfl⟩
  · have h4 : i = 4 := by omega
    subst h4
    obtain ⟨k, lo, z, rfl, hX, hk⟩ := hv.cons (by simp [wds])
    repeat' (first
    | simp (implicitDefEqProofs := false) only [push_cast, reduceIte, reduceCtorEq, Nat.reduceAdd, Nat.reduceSub, Nat.reduceEqDiff, Nat.reduceLT, Nat.reduceLeDiff, Nat.reduceBEq, Nat.reduceMul, Int.reduceLT, Int.reduceLE, Int.reduceEq, Int.reduceToNat, Int.reduceMul, Int.reduceNeg, Go.Proofs.Try.f156, kdsV, kd4, c4N, hT, ap_lo, st_lo, st_ne, st_eq, len_st, st_st, sst, at_set, at_set0, at_set2, List.replicate_succ, List.drop_zero]
    | refine Sp2.f ?_ ?_
    | refine Spl.f ?_ ?_ <;> intro hb
    | refine rq_mk rfl (fun b hb => ?_))
    exact res_win (ys := wds.map (.int .i64)) hX hk rfl (by simp [winGet, wds]) (by simp [wds, datL_cons, datL_nil, dat_int]) rfl
/-- a key's width; 0: it has not the form of one -/
def widthK (b : List UInt8) : Int :=
  if b.length = 56 ∧ ((⟨b, false⟩ : RS).num 4).1 = 5 then
    (if (((⟨b, false⟩ : RS).num 4).2.num 4).1 = 1 then 1 else if (((⟨b, false⟩ : RS).num 4).2.num 4).1 = 2 then 2 else if (((⟨b, false⟩ : RS).num 4).2.num 4).1 = 3 then 4 else if (((⟨b, false⟩ : RS).num 4).2.num 4).1 = 4 then 8 else 0)
  else 0
theorem c_Width (b : List UInt8) (hb : b.length ≤ 100000000) : Fn prog 135 [eBs b] (.int .i64 (widthK b)) := by
  refine run_135 rfl fun h => ?_
  repeat' (first
    | simp (implicitDefEqProofs := false) only [push_cast, reduceIte, reduceCtorEq, Nat.reduceAdd, Nat.reduceSub, Nat.reduceEqDiff, Nat.reduceLT, Nat.reduceLeDiff, Nat.reduceBEq, Nat.reduceMul, Int.reduceLT, Int.reduceLE, Int.reduceEq, Int.reduceToNat, Int.reduceMul, Int.reduceNeg, Go.Proofs.Try.f135, eBs_ty, eBs_pl, eBs_wk, ap_lo, st_lo, st_ne, st_eq, len_st, st_st, sst, at_set, at_set0, at_set2, List.replicate_succ, List.drop_zero]
    | refine Sp2.f ?_ ?_
    | refine Spl.f ?_ ?_ <;> intro hb
    | refine rq_mk rfl (fun b hb => ?_))
  refine k_spec (c_PNew b hb h) fun v H hP => ?_
  obtain ⟨kd, kb, l0, rfl, hH, hkd, hkb, r0⟩ := hP
  have hT0 : H.take h.length = h := by rw [hH]; simp
  clear hH l0
  have hn1 := c_RNum r0 4 (by omega) (by omega)
  have r1 := r0.num 4
  have hn2 := c_RNum r1 4 (by omega) (by omega)
  have hT2 : ((H.set kd (rdE kb b ((⟨b, false⟩ : RS).num 4).2)).set kd (rdE kb b (((⟨b, false⟩ : RS).num 4).2.num 4).2)).take h.length = h := by rw [List.take_set_of_le hkd, List.take_set_of_le hkd]; exact hT0
  have hw : widthK b = (if b.length = 56 ∧ ((⟨b, false⟩ : RS).num 4).1 = 5 then
    (if (((⟨b, false⟩ : RS).num 4).2.num 4).1 = 1 then 1 else if (((⟨b, false⟩ : RS).num 4).2.num 4).1 = 2 then 2 else if (((⟨b, false⟩ : RS).num 4).2.num 4).1 = 3 then 4 else if (((⟨b, false⟩ : RS).num 4).2.num 4).1 = 4 then 8 else 0)
  else 0) := rfl
  generalize widthK b = W at hw ⊢
  generalize ((H.set kd (rdE kb b ((⟨b, false⟩ : RS).num 4).2)).set kd (rdE kb b (((⟨b, false⟩ : RS).num 4).2.num 4).2)) = H2 at hn2 hT2
  generalize (((⟨b, false⟩ : RS).num 4).2.num 4).1 = dg at hn2 hw
  generalize ((⟨b, false⟩ : RS).num 4).1 = tr at hn1 hw
  repeat' (first
    | simp (implicitDefEqProofs := false) only [push_cast, reduceIte, reduceCtorEq, Nat.reduceAdd, Nat.reduceSub, Nat.reduceEqDiff, Nat.reduceLT, Nat.reduceLeDiff, Nat.reduceBEq, Nat.reduceMul, Int.reduceLT, Int.reduceLE, Int.reduceEq, Int.reduceToNat, Int.reduceMul, Int.reduceNeg, Go.Proofs.Try.f135, ap_lo, st_lo, st_ne, st_eq, len_st, st_st, sst, at_set, at_set0, at_set2, List.replicate_succ, List.drop_zero]
    | refine Sp2.f ?_ ?_
    | refine Spl.f ?_ ?_ <;> intro hb
    | refine rq_mk rfl (fun b hb => ?_)
    | refine k_det hn1 ?_
    | refine k_det hn2 ?_
    | refine k_fn c_Types ?_)
  have hw4 : wds.length = 4 := rfl
  refine rl_gen (fun i env' H => i ≤ 4 ∧ H = H2 ∧ (∀ j, j < i → ¬ (b.length = 56 ∧ tr = 5 ∧ dg = (j : Int) + 1)) ∧ env' = (fun a : Nat → AV => [(0, eBs b), (2, .int .i64 0), (3, a 3), (4, .int .u64 tr), (5, .int .u64 dg), (7, a 7), (14, .list 3 (wds.map (.int .i64))), (15, .int .i64 4), (16, .int .i64 (i : Int)), (17, a 17), (33, a 33)]) (lk env')) 4 ⟨Nat.zero_le _, rfl, fun j hj => absurd hj (Nat.not_lt_zero j), rfl⟩ ?_
  clear hn1 hn2 r1 r0 hT0 H
  rintro i env H ⟨hi, rfl, hinv, henv⟩
  refine ⟨hi, ?_⟩
  rw [henv]
  generalize lk env = a
  clear henv env
  have nx : ∀ {i : Nat}, (∀ j, j < i → ¬ (b.length = 56 ∧ tr = 5 ∧ dg = (j : Int) + 1)) → ¬ (b.length = 56 ∧ tr = 5 ∧ dg = (i : Int) + 1) → ∀ j, j < i + 1 → ¬ (b.length = 56 ∧ tr = 5 ∧ dg = (j : Int) + 1) := fun {i} h1 h2 j hj => by
    by_cases e : j = i
    · subst e; exact h2
    · exact h1 j (by omega)
  rcases four5 hi with rfl | rfl | rfl | rfl | rfl
  · have hcd := c_Code 1 (by simp [wds])
    rw [show codeW 1 = 1 from rfl] at hcd
    have cw : IntKind.wrap .u64 1 = 1 := by decide
    by_cases e1 : b.length = 56
    · have f1 : ((b.length : Int) == 56) = true := by rw [e1]; rfl
      by_cases e2 : tr = 5
      · have f2 : (tr == 5) = true := by simpa using e2
        by_cases e3 : dg = 1
        · have f3 : (dg == 1) = true := by simpa using e3
          repeat' (first
    | simp (implicitDefEqProofs := false) only [push_cast, reduceIte, reduceCtorEq, Nat.reduceAdd, Nat.reduceSub, Nat.reduceEqDiff, Nat.reduceLT, Nat.reduceLeDiff, Nat.reduceBEq, Nat.reduceMul, Int.reduceLT, Int.reduceLE, Int.reduceEq, Int.reduceToNat, Int.reduceMul, Int.reduceNeg, Go.Proofs.Try.f135, eBs, wds, c0N, c1N, c2N, c3N, c4N, List.length_map, List.map_cons, List.map_nil, List.getD_cons_zero, List.getD_cons_succ, cw, f1, f2, f3, hT2, ap_lo, st_lo, st_ne, st_eq, len_st, st_st, sst, at_set, at_set0, at_set2, List.replicate_succ, List.drop_zero]
    | refine Sp2.f ?_ ?_
    | refine Spl.f ?_ ?_ <;> intro hb
    | refine rq_mk rfl (fun b hb => ?_)
    | refine k_fn hcd ?_)
          rw [hw, if_pos ⟨e1, e2⟩, e3]; rfl
        · have f3 : (dg == 1) = false := by simpa using e3
          repeat' (first
    | simp (implicitDefEqProofs := false) only [push_cast, reduceIte, reduceCtorEq, Nat.reduceAdd, Nat.reduceSub, Nat.reduceEqDiff, Nat.reduceLT, Nat.reduceLeDiff, Nat.reduceBEq, Nat.reduceMul, Int.reduceLT, Int.reduceLE, Int.reduceEq, Int.reduceToNat, Int.reduceMul, Int.reduceNeg, Go.Proofs.Try.f135, eBs, wds, c0N, c1N, c2N, c3N, c4N, List.length_map, List.map_cons, List.map_nil, List.getD_cons_zero, List.getD_cons_succ, cw, f1, f2, f3, hT2, ap_lo, st_lo, st_ne, st_eq, len_st, st_st, sst, at_set, at_set0, at_set2, List.replicate_succ, List.drop_zero]
    | refine Sp2.f ?_ ?_
    | refine Spl.f ?_ ?_ <;> intro hb
    | refine rq_mk rfl (fun b hb => ?_)
    | refine k_fn hcd ?_)
          exact ⟨nx hinv fun h => e3 h.2.2, rfl⟩
      · have f2 : (tr == 5) = false := by simpa using e2
        repeat' (first
    | simp (implicitDefEqProofs := false) only [push_cast, reduceIte, reduceCtorEq, Nat.reduceAdd, Nat.reduceSub, Nat.reduceEqDiff, Nat.reduceLT, Nat.reduceLeDiff, Nat.reduceBEq, Nat.reduceMul, Int.reduceLT, Int.reduceLE, Int.reduceEq, Int.reduceToNat, Int.reduceMul, Int.reduceNeg, Go.Proofs.Try.f135, eBs, wds, c0N, c1N, c2N, c3N, c4N, List.length_map, List.map_cons, List.map_nil, List.getD_cons_zero, List.getD_cons_succ, cw, f1, f2, hT2, ap_lo, st_lo, st_ne, st_eq, len_st, st_st, sst, at_set, at_set0, at_set2, List.replicate_succ, List.drop_zero]
    | refine Sp2.f ?_ ?_
    | refine Spl.f ?_ ?_ <;> intro hb
    | refine rq_mk rfl (fun b hb => ?_))
        exact ⟨nx hinv fun h => e2 h.2.1, rfl⟩
    · have f1 : ((b.length : Int) == 56) = false := by rw [beq_eq_false_iff_ne]; omega
      repeat' (first
    | simp (implicitDefEqProofs := false) only [push_cast, reduceIte, reduceCtorEq, Nat.reduceAdd, Nat.reduceSub, Nat.reduceEqDiff, Nat.reduceLT, Nat.reduceLeDiff, Nat.reduceBEq, Nat.reduceMul, Int.reduceLT, Int.reduceLE, Int.reduceEq, Int.reduceToNat, Int.reduceMul, Int.reduceNeg, Go.Proofs.Try.f135, eBs, wds, c0N, c1N, c2N, c3N, c4N, List.length_map, List.map_cons, List.map_nil, List.getD_cons_zero, List.getD_cons_succ, cw, f1, hT2, ap_lo, st_lo, st_ne, st_eq, len_st, st_st, sst, at_set, at_set0, at_set2, List.replicate_succ, List.drop_zero]
    | refine Sp2.f ?_ ?_
    | refine Spl.f ?_ ?_ <;> intro hb
    | refine rq_mk rfl (fun b hb => ?_))
      exact ⟨nx hinv fun h => e1 h.1, rfl⟩
  · have hcd := c_Code 2 (by simp [wds])
    rw [show codeW 2 = 2 from rfl] at hcd
    have cw : IntKind.wrap .u64 2 = 2 := by decide
    by_cases e1 : b.length = 56
    · have f1 : ((b.length : Int) == 56) = true := by rw [e1]; rfl
      by_cases e2 : tr = 5
      · have f2 : (tr == 5) = true := by simpa using e2
        by_cases e3 : dg = 2
        · have f3 : (dg == 2) = true := by simpa using e3
          repeat' (first
    | simp (implicitDefEqProofs := false) only [push_cast, reduceIte, reduceCtorEq, Nat.reduceAdd, Nat.reduceSub, Nat.reduceEqDiff, Nat.reduceLT, Nat.reduceLeDiff, Nat.reduceBEq, Nat.reduceMul, Int.reduceLT, Int.reduceLE, Int.reduceEq, Int.reduceToNat, Int.reduceMul, Int.reduceNeg, Go.Proofs.Try.f135, eBs, wds, c0N, c1N, c2N, c3N, c4N, List.length_map, List.map_cons, List.map_nil, List.getD_cons_zero, List.getD_cons_succ, cw, f1, f2, f3, hT2, ap_lo, st_lo, st_ne, st_eq, len_st, st_st, sst, at_set, at_set0, at_set2, List.replicate_succ, List.drop_zero]
    | refine Sp2.f ?_ ?_
    | refine Spl.f ?_ ?_ <;> intro hb
    | refine rq_mk rfl (fun b hb => ?_)
    | refine k_fn hcd ?_)
          rw [hw, if_pos ⟨e1, e2⟩, e3]; rfl
        · have f3 : (dg == 2) = false := by simpa using e3
          repeat' (first
    | simp (implicitDefEqProofs := false) only [push_cast, reduceIte, reduceCtorEq, Nat.reduceAdd, Nat.reduceSub, Nat.reduceEqDiff, Nat.reduceLT, Nat.reduceLeDiff, Nat.reduceBEq, Nat.reduceMul, Int.reduceLT, Int.reduceLE, Int.reduceEq, Int.reduceToNat, Int.reduceMul, Int.reduceNeg, Go.Proofs.Try.f135, eBs, wds, c0N, c1N, c2N, c3N, c4N, List.length_map, List.map_cons, List.map_nil, List.getD_cons_zero, List.getD_cons_succ, cw, f1, f2, f3, hT2, ap_lo, st_lo, st_ne, st_eq, len_st, st_st, sst, at_set, at_set0, at_set2, List.replicate_succ, List.drop_zero]
    | refine Sp2.f ?_ ?_
    | refine Spl.f ?_ ?_ <;> intro hb
    | refine rq_mk rfl (fun b hb => ?_)
    | refine k_fn hcd ?_)
          exact ⟨nx hinv fun h => e3 h.2.2, rfl⟩
      · have f2 : (tr == 5) = false := by simpa using e2
        repeat' (first
    | simp (implicitDefEqProofs := false) only [push_cast, reduceIte, reduceCtorEq, Nat.reduceAdd, Nat.reduceSub, Nat.reduceEqDiff, Nat.reduceLT, Nat.reduceLeDiff, Nat.reduceBEq, Nat.reduceMul, Int.reduceLT, Int.reduceLE, Int.reduceEq, Int.reduceToNat, Int.reduceMul, Int.reduceNeg, Go.Proofs.Try.f135, eBs, wds, c0N, c1N, c2N, c3N, c4N, List.length_map, List.map_cons, List.map_nil, List.getD_cons_zero, List.getD_cons_succ, cw, f1, f2, hT2, ap_lo, st_lo, st_ne, st_eq, len_st, st_st, sst, at_set, at_set0, at_set2, List.replicate_succ, List.drop_zero]
    | refine Sp2.f ?_ ?_
    | refine Spl.f ?_ ?_ <;> intro hb
    | refine rq_mk rfl (fun b hb => ?_))
        exact ⟨nx hinv fun h => e2 h.2.1, rfl⟩
    · have f1 : ((b.length : Int) == 56) = false := by rw [beq_eq_false_iff_ne]; omega
      repeat' (first
    | simp (implicitDefEqProofs := false) only [push_cast, reduceIte, reduceCtorEq, Nat.reduceAdd, Nat.reduceSub, Nat.reduceEqDiff, Nat.reduceLT, Nat.reduceLeDiff, Nat.reduceBEq, Nat.reduceMul, Int.reduceLT, Int.reduceLE, Int.reduceEq, Int.reduceToNat, Int.reduceMul, Int.reduceNeg, Go.Proofs.Try.f135, eBs, wds, c0N, c1N, c2N, c3N, c4N, List.length_map, List.map_cons, List.map_nil, List.getD_cons_zero, List.getD_cons_succ, cw, f1, hT2, ap_lo, st_lo, st_ne, st_eq, len_st, st_st, sst, at_set, at_set0, at_set2, List.replicate_succ, List.drop_zero]
    | refine Sp2.f ?_ ?_
    | refine Spl.f ?_ ?_ <;> intro hb
    | refine rq_mk rfl (fun b hb => ?_))
      exact ⟨nx hinv fun h => e1 h.1, rfl⟩
  · have hcd := c_Code 4 (by simp [wds])
    rw [show codeW 4 = 3 from rfl] at hcd
    have cw : IntKind.wrap .u64 3 = 3 := by decide
    by_cases e1 : b.length = 56
    · have f1 : ((b.length : Int) == 56) = true := by rw [e1]; rfl
      by_cases e2 : tr = 5
      · have f2 : (tr == 5) = true := by simpa using e2
        by_cases e3 : dg = 3
        · have f3 : (dg == 3) = true := by simpa using e3
          repeat' (first
    | simp (implicitDefEqProofs := false) only [push_cast, reduceIte, reduceCtorEq, Nat.reduceAdd, Nat.reduceSub, Nat.reduceEqDiff, Nat.reduceLT, Nat.reduceLeDiff, Nat.reduceBEq, Nat.reduceMul, Int.reduceLT, Int.reduceLE, Int.reduceEq, Int.reduceToNat, Int.reduceMul, Int.reduceNeg, Go.Proofs.Try.f135, eBs, wds, c0N, c1N, c2N, c3N, c4N, List.length_map, List.map_cons, List.map_nil, List.getD_cons_zero, List.getD_cons_succ, cw, f1, f2, f3, hT2, ap_lo, st_lo, st_ne, st_eq, len_st, st_st, sst, at_set, at_set0, at_set2, List.replicate_succ, List.drop_zero]
    | refine Sp2.f ?_ ?_
    | refine Spl.f ?_ ?_ <;> intro hb
    | refine rq_mk rfl (fun b hb => ?_)
    | refine k_fn hcd ?_)
          rw [hw, if_pos ⟨e1, e2⟩, e3]; rfl
        · have f3 : (dg == 3) = false := by simpa using e3
          repeat' (first
    | simp (implicitDefEqProofs := false) only [push_cast, reduceIte, reduceCtorEq, Nat.reduceAdd, Nat.reduceSub, Nat.reduceEqDiff, Nat.reduceLT, Nat.reduceLeDiff, Nat.reduceBEq, Nat.reduceMul, Int.reduceLT, Int.reduceLE, Int.reduceEq, Int.reduceToNat, Int.reduceMul, Int.reduceNeg, Go.Proofs.Try.f135, eBs, wds, c0N, c1N, c2N, c3N, c4N, List.length_map, List.map_cons, List.map_nil, List.getD_cons_zero, List.getD_cons_succ, cw, f1, f2, f3, hT2, ap_lo, st_lo, st_ne, st_eq, len_st, st_st, sst, at_set, at_set0, at_set2, List.replicate_succ, List.drop_zero]
    | refine Sp2.f ?_ ?_
    | refine Spl.f ?_ ?_ <;> intro hb
    | refine rq_mk rfl (fun b hb => ?_)
    | refine k_fn hcd ?_)
          exact ⟨nx hinv fun h => e3 h.2.2, rfl⟩
      · have f2 : (tr == 5) = false := by simpa using e2
        repeat' (first
    | simp (implicitDefEqProofs := false) only [push_cast, reduceIte, reduceCtorEq, Nat.reduceAdd, Nat.reduceSub, Nat.reduceEqDiff, Nat.reduceLT, Nat.reduceLeDiff, Nat.reduceBEq, Nat.reduceMul, Int.reduceLT, Int.reduceLE, Int.reduceEq, Int.reduceToNat, Int.reduceMul, Int.reduceNeg, Go.Proofs.Try.f135, eBs, wds, c0N, c1N, c2N, c3N, c4N, List.length_map, List.map_cons, List.map_nil, List.getD_cons_zero, List.getD_cons_succ, cw, f1, f2, hT2, ap_lo, st_lo, st_ne, st_eq, len_st, st_st, sst, at_set, at_set0, at_set2, List.replicate_succ, List.drop_zero]
    | refine Sp2.f ?_ ?_
    | refine Spl.f ?_ ?_ <;> intro hb
    | refine rq_mk rfl (fun b hb => ?_))
        exact ⟨nx hinv fun h => e2 h.2.1, rfl⟩
    · have f1 : ((b.length : Int) == 56) = false := by rw [beq_eq_false_iff_ne]; omega
      repeat' (first
    | simp (implicitDefEqProofs := false) only [push_cast, reduceIte, reduceCtorEq, Nat.reduceAdd, Nat.reduceSub, Nat.reduceEqDiff, Nat.reduceLT, Nat.reduceLeDiff, Nat.reduceBEq, Nat.reduceMul, Int.reduceLT, Int.reduceLE, Int.reduceEq, Int.reduceToNat, Int.reduceMul, Int.reduceNeg, Go.Proofs.Try.f135, eBs, wds, c0N, c1N, c2N, c3N, c4N, List.length_map, List.map_cons, List.map_nil, List.getD_cons_zero, List.getD_cons_succ, cw, f1, hT2, ap_lo, st_lo, st_ne, st_eq, len_st, st_st, sst, at_set, at_set0, at_set2, List.replicate_succ, List.drop_zero]
    | refine Sp2.f ?_ ?_
    | refine Spl.f ?_ ?_ <;> intro hb
    | refine rq_mk rfl (fun b hb => ?_))
      exact ⟨nx hinv fun h => e1 h.1, rfl⟩
  · have hcd := c_Code 8 (by simp [wds])
    rw [show codeW 8 = 4 from rfl] at hcd
    have cw : IntKind.wrap .u64 4 = 4 := by decide
    by_cases e1 : b.length = 56
    · have f1 : ((b.length : Int) == 56) = true := by rw [e1]; rfl
      by_cases e2 : tr = 5
      · have f2 : (tr == 5) = true := by simpa using e2
        by_cases e3 : dg = 4
        · have f3 : (dg == 4) = true := by simpa using e3
          repeat' (first
    | simp (implicitDefEqProofs := false) only [push_cast, reduceIte, reduceCtorEq, Nat.reduceAdd, Nat.reduceSub, Nat.reduceEqDiff, Nat.reduceLT, Nat.reduceLeDiff, Nat.reduceBEq, Nat.reduceMul, Int.reduceLT, Int.reduceLE, Int.reduceEq, Int.reduceToNat, Int.reduceMul, Int.reduceNeg, Go.Proofs.Try.f135, eBs, wds, c0N, c1N, c2N, c3N, c4N, List.length_map, List.map_cons, List.map_nil, List.getD_cons_zero, List.getD_cons_succ, cw, f1, f2, f3, hT2, ap_lo, st_lo, st_ne, st_eq, len_st, st_st, sst, at_set, at_set0, at_set2, List.replicate_succ, List.drop_zero]
    | refine Sp2.f ?_ ?_
    | refine Spl.f ?_ ?_ <;> intro hb
    | refine rq_mk rfl (fun b hb => ?_)
    | refine k_fn hcd ?_)
          rw [hw, if_pos ⟨e1, e2⟩, e3]; rfl
        · have f3 : (dg == 4) = false := by simpa using e3
          repeat' (first
    | simp (implicitDefEqProofs := false) only [push_cast, reduceIte, reduceCtorEq, Nat.reduceAdd, Nat.reduceSub, Nat.reduceEqDiff, Nat.reduceLT, Nat.reduceLeDiff, Nat.reduceBEq, Nat.reduceMul, Int.reduceLT, Int.reduceLE, Int.reduceEq, Int.reduceToNat, Int.reduceMul, Int.reduceNeg, Go.Proofs.Try.f135, eBs, wds, c0N, c1N, c2N, c3N, c4N, List.length_map, List.map_cons, List.map_nil, List.getD_cons_zero, List.getD_cons_succ, cw, f1, f2, f3, hT2, ap_lo, st_lo, st_ne, st_eq, len_st, st_st, sst, at_set, at_set0, at_set2, List.replicate_succ, List.drop_zero]
    | refine Sp2.f ?_ ?_
    | refine Spl.f ?_ ?_ <;> intro hb
    | refine rq_mk rfl (fun b hb => ?_)
    | refine k_fn hcd ?_)
          exact ⟨nx hinv fun h => e3 h.2.2, rfl⟩
      · have f2 : (tr == 5) = false := by simpa using e2
        repeat' (first
    | simp (implicitDefEqProofs := false) only [push_cast, reduceIte, reduceCtorEq, Nat.reduceAdd, Nat.reduceSub, Nat.reduceEqDiff, Nat.reduceLT, Nat.reduceLeDiff, Nat.reduceBEq, Nat.reduceMul, Int.reduceLT, Int.reduceLE, Int.reduceEq, Int.reduceToNat, Int.reduceMul, Int.reduceNeg, Go.Proofs.Try.f135, eBs, wds, c0N, c1N, c2N, c3N, c4N, List.length_map, List.map_cons, List.map_nil, List.getD_cons_zero, List.getD_cons_succ, cw, f1, f2, hT2, ap_lo, st_lo, st_ne, st_eq, len_st, st_st, sst, at_set, at_set0, at_set2, List.replicate_succ, List.drop_zero]
    | refine Sp2.f ?_ ?_
    | refine Spl.f ?_ ?_ <;> intro hb
    | refine rq_mk rfl (fun b hb => ?_))
        exact ⟨nx hinv fun h => e2 h.2.1, rfl⟩
    · have f1 : ((b.length : Int) == 56) = false := by rw [beq_eq_false_iff_ne]; omega
      repeat' (first
    | simp (implicitDefEqProofs := false) only [push_cast, reduceIte, reduceCtorEq, Nat.reduceAdd, Nat.reduceSub, Nat.reduceEqDiff, Nat.reduceLT, Nat.reduceLeDiff, Nat.reduceBEq, Nat.reduceMul, Int.reduceLT, Int.reduceLE, Int.reduceEq, Int.reduceToNat, Int.reduceMul, Int.reduceNeg, Go.Proofs.Try.f135, eBs, wds, c0N, c1N, c2N, c3N, c4N, List.length_map, List.map_cons, List.map_nil, List.getD_cons_zero, List.getD_cons_succ, cw, f1, hT2, ap_lo, st_lo, st_ne, st_eq, len_st, st_st, sst, at_set, at_set0, at_set2, List.replicate_succ, List.drop_zero]
    | refine Sp2.f ?_ ?_
    | refine Spl.f ?_ ?_ <;> intro hb
    | refine rq_mk rfl (fun b hb => ?_))
      exact ⟨nx hinv fun h => e1 h.1, rfl⟩
  · repeat' (first
    | simp (implicitDefEqProofs := false) only [push_cast, reduceIte, reduceCtorEq, Nat.reduceAdd, Nat.reduceSub, Nat.reduceEqDiff, Nat.reduceLT, Nat.reduceLeDiff, Nat.reduceBEq, Nat.reduceMul, Int.reduceLT, Int.reduceLE, Int.reduceEq, Int.reduceToNat, Int.reduceMul, Int.reduceNeg, Go.Proofs.Try.f135, eBs, wds, c0N, c1N, c2N, c3N, c4N, List.length_map, List.map_cons, List.map_nil, List.getD_cons_zero, List.getD_cons_succ, hw4, hT2, ap_lo, st_lo, st_ne, st_eq, len_st, st_st, sst, at_set, at_set0, at_set2, List.replicate_succ, List.drop_zero]
    | refine Sp2.f ?_ ?_
    | refine Spl.f ?_ ?_ <;> intro hb
    | refine rq_mk rfl (fun b hb => ?_))
    rw [hw]
    split
    · rename_i hA
      have h0 := hinv 0 (by omega)
      have h1 := hinv 1 (by omega)
      have h2 := hinv 2 (by omega)
      have h3 := hinv 3 (by omega)
      rw [if_neg (fun e => h0 ⟨hA.1, hA.2, by omega⟩), if_neg (fun e => h1 ⟨hA.1, hA.2, by omega⟩), if_neg (fun e => h2 ⟨hA.1, hA.2, by omega⟩), if_neg (fun e => h3 ⟨hA.1, hA.2, by omega⟩)]
    · rfl
def formK (b : List UInt8) : Bool := decide (0 < widthK b)
theorem c_Form (b : List UInt8) (hb : b.length ≤ 100000000) : Fn prog 100 [eBs b] (.bool (formK b)) := by
  have hw := c_Width b hb
  refine run_100 rfl fun h => ?_
  repeat' (first
    | simp (implicitDefEqProofs := false) only [push_cast, reduceIte, reduceCtorEq, Nat.reduceAdd, Nat.reduceSub, Nat.reduceEqDiff, Nat.reduceLT, Nat.reduceLeDiff, Nat.reduceBEq, Nat.reduceMul, Int.reduceLT, Int.reduceLE, Int.reduceEq, Int.reduceToNat, Int.reduceMul, Int.reduceNeg, Go.Proofs.Try.f100, eBs_ty, eBs_pl, eBs_wk, ap_lo, st_lo, st_ne, st_eq, len_st, st_st, sst, at_set, at_set0, at_set2, List.replicate_succ, List.drop_zero]
    | refine Sp2.f ?_ ?_
    | refine Spl.f ?_ ?_ <;> intro hb
    | refine rq_mk rfl (fun b hb => ?_)
    | refine k_fn hw ?_)
  rfl

end Go.Abs
