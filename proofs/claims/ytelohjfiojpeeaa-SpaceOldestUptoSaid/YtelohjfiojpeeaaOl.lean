/- Ol: a part of the proofs about the tuple space (layer 8). -/
import Derived.Test.YtelohjfiojpeeaaOa
import Derived.Test.YtelohjfiojpeeaaAbs28
set_option linter.all false
set_option maxRecDepth 100000
set_option maxHeartbeats 0
namespace Go.Abs
open Go
open Go.Proofs.Try (prog)
/-! ### SpaceOldest -/
theorem by_bool : prog.bytesOf 4 = 1 := by kernel_rfl
theorem tk_keep {H l h : List Entry} {e : Entry} (hT : H.take h.length = h) (hkl : h.length < H.length) : (H.set h.length e ++ l).take h.length = h := by
  rw [List.take_append_of_le_length (by rw [List.length_set]; omega), List.take_set_of_le (Nat.le_refl _)]; exact hT
theorem get_keep {H l h : List Entry} {e : Entry} (hkl : h.length < H.length) : (H.set h.length e ++ l)[h.length]? = some e := by
  rw [List.getElem?_append_left (by rw [List.length_set]; exact hkl), List.getElem?_set_self hkl]
theorem get_stay {H l : List Entry} {k j : Nat} {e x : Entry} (hj : H[j]? = some x) (hne : k ≠ j) : (H.set k e ++ l)[j]? = some x := by
  rw [List.getElem?_append_left (by rw [List.length_set]; exact lt_some hj), List.getElem?_set_ne hne]; exact hj
theorem tk_keep2 {H l h : List Entry} {e e' : Entry} {k : Nat} (hT : H.take h.length = h) (hkl : h.length < H.length) (hk : h.length < k) : ((H.set h.length e).set k e' ++ l).take h.length = h := by
  rw [List.take_append_of_le_length (by simp; omega), List.take_set_of_le (by omega), List.take_set_of_le (Nat.le_refl _)]; exact hT
theorem get_keep2 {H l h : List Entry} {e e' : Entry} {k : Nat} (hkl : h.length < H.length) (hk : h.length < k) : ((H.set h.length e).set k e' ++ l)[h.length]? = some e := by
  rw [List.getElem?_append_left (by simp; exact hkl), List.getElem?_set_ne (by omega), List.getElem?_set_self hkl]
theorem get_keep3 {H l h : List Entry} {e e' : Entry} {k : Nat} (hkl : k < H.length) : ((H.set h.length e).set k e' ++ l)[k]? = some e' := by
  rw [List.getElem?_append_left (by simp; exact hkl), List.getElem?_set_self (by simp; exact hkl)]
def OI (l : List Int) (n : Nat) (h : List Entry) (E : Nat → (Nat → AV) → Env) (i : Nat) (env : Env) (hh : List Entry) : Prop :=
  ∃ s, O1 l i s ∧ i ≤ n ∧ hh.take h.length = h ∧ hh[h.length]? = some ⟨33, [eS s], .own⟩ ∧ env = E i (lk env)
def PO (l : List Int) (n m : Nat) (kg : Nat) (h : List Entry) (E : Nat → (Nat → AV) → Env) (i : Nat) (env : Env) (hh : List Entry) : Prop :=
  ∃ s gl, O2 l n gl i s ∧ i ≤ m ∧ i ≤ 30 ∧ hh.take h.length = h ∧ hh[h.length]? = some ⟨33, [eS s], .own⟩ ∧ hh[kg]? = some ⟨4, gl.map .bool, .own⟩ ∧ env = E i (lk env)
def QO (H : List Entry) (n : Nat) (c : Nat → Bool) (E : Int → Int → (Nat → AV) → Env) (m : Nat) (env : Env) (hh : List Entry) : Prop :=
  hh = H ∧ m ≤ n ∧ ∃ k j, k = firstN c ((List.range n).drop (n - m)) ∧ j = (n : Int) - 1 - (m : Int) ∧ env = E k j (lk env)
theorem QO.next {n m : Nat} {c : Nat → Bool} {k k' : Int} (hm : m < n) (hk : k = firstN c ((List.range n).drop (n - m))) (h : k' = if c (n - 1 - m) = true then ((n - 1 - m : Nat) : Int) else k) : k' = firstN c ((List.range n).drop (n - (m + 1))) := by
  rw [show n - (m + 1) = n - 1 - m by omega, range_drop hm, firstN_cons, ← hk]; exact h
theorem c_SpaceOldest (l : List Int) (tk : List Bool) (hl : l.length ≤ 4294967296) (ht : tk.length ≤ 4294967296) :
    Fn prog 6 [.list 3 (l.map (.int .i64)), .list 4 (tk.map .bool)] (.bool true) := by
  refine run_6 rfl fun h => ?_
  have hmin : (if (24 : Int) < (l.length : Int) then (24 : Int) else (l.length : Int)) = ((min l.length 24 : Nat) : Int) := by split <;> omega
  have hn1 : min l.length 24 ≤ l.length := Nat.min_le_left _ _
  have hn2 : min l.length 24 ≤ 24 := Nat.min_le_right _ _
  have hn3 : ¬ min l.length 24 < l.length ∨ min l.length 24 = 24 := by omega
  generalize min l.length 24 = n at hmin hn1 hn2 hn3
  repeat' (first
    | simp (implicitDefEqProofs := false) only [push_cast, reduceIte, reduceCtorEq, Nat.reduceAdd, Nat.reduceSub, Nat.reduceEqDiff, Nat.reduceLT, Nat.reduceLeDiff, Nat.reduceBEq, Nat.reduceMul, Int.reduceLT, Int.reduceLE, Int.reduceEq, Int.reduceToNat, Int.reduceMul, Int.reduceNeg, Go.Proofs.Try.f6, eS_ty, eS_pl, eS_wk, List.length_map, hmin, ap_lo, st_lo, st_ne, st_eq, len_st, st_st, sst, at_set, at_set0, at_set2, at_set20, sst2, List.replicate_succ, List.drop_zero]
    | refine Sp2.f ?_ ?_
    | refine Spl.f ?_ ?_ <;> intro hb
    | refine rq_mk rfl (fun b hb => ?_)
    | refine k_fn (c_New 15 15) ?_)
  refine rl_gen (OI l n h (fun i a => [(0, .list 3 (l.map (.int .i64))), (1, .list 4 (tk.map .bool)), (4, .bool false), (5, .ref h.length [0] 33), (6, .int .i64 n), (7, .int .i64 i), (8, a 8), (9, a 9), (10, a 10), (11, a 11), (12, a 12), (13, a 13), (14, a 14), (15, a 15), (16, a 16), (23, a 23), (56, a 56), (67, a 67), (84, a 84), (95, a 95), (139, a 139), (147, a 147)])) n ⟨newS 15 15, O1.new l, Nat.zero_le _, by simp, get_at0 h _, rfl⟩ ?_
  rintro i env H ⟨s, ho, hi, hT, a0, henv⟩
  refine ⟨hi, ?_⟩
  rw [henv]
  generalize lk env = a
  clear henv env
  have hkl := lt_some a0
  by_cases hlt : i < n
  · have hli : i < l.length := by omega
    have hx : l[i]? = some (l.getD i 0) := by rw [List.getD_eq_getElem?_getD, List.getElem?_eq_getElem hli]; rfl
    have hi9 : i < 9223372036854775807 := by omega
    have hm4 := mod4 i (by omega)
    obtain ⟨ci, hci⟩ : ∃ ci : Int, ci = ((i % 4 : Nat) : Int) := ⟨_, rfl⟩
    rw [← hci] at hm4
    have d1 := c_Do s i (rqO l i) ho.c.ms.small ⟨by simp [rqO], by simp [rqO]⟩
    have ho' := ho.step (by omega)
    generalize doS s i (rqO l i) = o at d1 ho'
    obtain ⟨s', rs⟩ := o
    repeat' (first
    | simp (implicitDefEqProofs := false) only [push_cast, reduceIte, reduceCtorEq, Nat.reduceAdd, Nat.reduceSub, Nat.reduceEqDiff, Nat.reduceLT, Nat.reduceLeDiff, Nat.reduceBEq, Nat.reduceMul, Int.reduceLT, Int.reduceLE, Int.reduceEq, Int.reduceToNat, Int.reduceMul, Int.reduceNeg, Go.Proofs.Try.f6, eS_ty, eS_pl, eS_wk, List.length_map, a0, hkl, cast_lt hlt, in_row hli, getD_map (AV.int .i64) hx, Int.toNat_natCast, hm4, wrap_succ hi9, ap_lo, st_lo, st_ne, st_eq, len_st, st_st, sst, at_set, at_set0, at_set2, at_set20, sst2, List.replicate_succ, List.drop_zero, ne_hi hkl, ne_hi' hkl, ne_h hkl, ne_h' hkl]
    | refine Sp2.f ?_ ?_
    | refine Spl.f ?_ ?_ <;> intro hb
    | refine rq_mk rfl (fun b hb => ?_))
    refine k_give wfp (k := H.length) (e := ⟨25, [eF (nF (vO l i)), eF (nF i)], .own⟩) (get_at0 H _) rfl (by simp) ?_ d1 ?_
    · subst hci
      simp only [List.map_cons, List.map_nil, bz_dat 4 _ (eS_dat _), bz_aggE, bz_winE, bz_intE, bz_listE, set_at0, get_at0, fzE, List.set_cons_succ, List.set_cons_zero, List.getElem?_cons_succ, List.getElem?_cons_zero, bzWin_fz, List.length_cons, List.length_nil, Nat.zero_add, Nat.reduceAdd, Nat.le_refl, if_true, List.drop_zero, List.take_succ_cons, List.take_zero]
      rfl
    repeat' (first
    | simp (implicitDefEqProofs := false) only [push_cast, reduceIte, reduceCtorEq, Nat.reduceAdd, Nat.reduceSub, Nat.reduceEqDiff, Nat.reduceLT, Nat.reduceLeDiff, Nat.reduceBEq, Nat.reduceMul, Int.reduceLT, Int.reduceLE, Int.reduceEq, Int.reduceToNat, Int.reduceMul, Int.reduceNeg, Go.Proofs.Try.f6, eS_ty, eS_pl, eS_wk, fzE, a0, hkl, wrap_succ hi9, ap_lo, st_lo, st_ne, st_eq, len_st, st_st, sst, at_set, at_set0, at_set2, at_set20, sst2, List.replicate_succ, List.drop_zero, ne_hi hkl, ne_hi' hkl, ne_h hkl, ne_h' hkl]
    | refine Sp2.f ?_ ?_
    | refine Spl.f ?_ ?_ <;> intro hb
    | refine rq_mk rfl (fun b hb => ?_))
    exact ⟨s', ho', hlt, tk_keep hT hkl, get_keep hkl, rfl⟩
  · have e : i = n := by omega
    subst e
    repeat' (first
    | simp (implicitDefEqProofs := false) only [push_cast, reduceIte, reduceCtorEq, Nat.reduceAdd, Nat.reduceSub, Nat.reduceEqDiff, Nat.reduceLT, Nat.reduceLeDiff, Nat.reduceBEq, Nat.reduceMul, Int.reduceLT, Int.reduceLE, Int.reduceEq, Int.reduceToNat, Int.reduceMul, Int.reduceNeg, Go.Proofs.Try.f6, eS_ty, eS_pl, eS_wk, List.length_map, a0, hkl, cast_ge hlt, Int.toNat_natCast, ap_lo, st_lo, st_ne, st_eq, len_st, st_st, sst, at_set, at_set0, at_set2, at_set20, sst2, List.replicate_succ, List.drop_zero, ne_hi hkl, ne_hi' hkl, ne_h hkl, ne_h' hkl]
    | refine Sp2.f ?_ ?_
    | refine Spl.f ?_ ?_ <;> intro hb
    | refine rq_mk rfl (fun b hb => ?_))
    · refine ⟨by omega, by omega, ?_, by omega⟩
      rw [by_bool]; omega
    have hd := ho.o2 hn2
    refine rl_gen (PO l i tk.length H.length h (fun j a => [(0, .list 3 (l.map (.int .i64))), (1, .list 4 (tk.map .bool)), (4, .bool false), (5, .ref h.length [0] 33), (6, .int .i64 i), (7, a 7), (8, a 8), (9, .win H.length [] 4 0 i i), (10, .int .i64 j), (11, a 11), (12, a 12), (13, a 13), (14, a 14), (15, a 15), (16, a 16), (23, a 23), (56, a 56), (67, a 67), (84, a 84), (95, a 95), (139, a 139), (147, a 147)])) tk.length ?_ ?_
    · refine ⟨s, _, hd, Nat.zero_le _, Nat.zero_le _, ?_, ?_, ?_, rfl⟩
      · rw [List.take_append_of_le_length (by omega)]; exact hT
      · rw [List.getElem?_append_left hkl]; exact a0
      · rw [get_at0, List.map_replicate]; rfl
    generalize H.length = kg at hkl
    clear ho hT a0 hmin hd hlt hi
    clear s H
    generalize i = n at *
    clear i
    rintro i env H ⟨s, gl, ho, hi, hi30, hT, a0, a1, henv⟩
    refine ⟨hi, ?_⟩
    rw [henv]
    generalize lk env = a
    clear henv env
    have hk2 := lt_some a0
    have hkg := lt_some a1
    have hngl := ho.len
    have hdo : i < tk.length ∧ i < 30 ∨ (¬ i < tk.length ∨ ¬ i < 30) := by omega
    rcases hdo with ⟨hlt, h30⟩ | hend
    · have f30 : decide ((i : Int) < 30) = true := by simp; omega
      have hi9 : i < 9223372036854775807 := by omega
      have hm4 := mod4 i (by omega)
      obtain ⟨ci, hci⟩ : ∃ ci : Int, ci = ((i % 4 : Nat) : Int) := ⟨_, rfl⟩
      rw [← hci] at hm4
      have hn1w : IntKind.wrap .i64 ((n : Int) - 1) = (n : Int) - 1 := IntWalk.i64_in _ (by omega)
      repeat' (first
    | simp (implicitDefEqProofs := false) only [push_cast, reduceIte, reduceCtorEq, Nat.reduceAdd, Nat.reduceSub, Nat.reduceEqDiff, Nat.reduceLT, Nat.reduceLeDiff, Nat.reduceBEq, Nat.reduceMul, Int.reduceLT, Int.reduceLE, Int.reduceEq, Int.reduceToNat, Int.reduceMul, Int.reduceNeg, Go.Proofs.Try.f6, eS_ty, eS_pl, eS_wk, List.length_map, a0, a1, hk2, hkg, f30, cast_lt hlt, Int.toNat_natCast, hm4, hn1w, ap_lo, st_lo, st_ne, st_eq, len_st, st_st, sst, at_set, at_set0, at_set2, at_set20, sst2, List.replicate_succ, List.drop_zero, ne_hi hk2, ne_hi' hk2, ne_h hk2, ne_h' hk2, ne_hi hkg, ne_hi' hkg, ne_h hkg, ne_h' hkg]
    | refine Sp2.f ?_ ?_
    | refine Spl.f ?_ ?_ <;> intro hb
    | refine rq_mk rfl (fun b hb => ?_))
      refine rl_gen (QO (H ++ [⟨25, [eF (nF ci), eF ⟨3, 0, ByteArray.empty⟩], .own⟩]) n (cO l gl i) (fun k j a => [(0, .list 3 (l.map (.int .i64))), (1, .list 4 (tk.map .bool)), (4, .bool false), (5, .ref h.length [0] 33), (6, .int .i64 n), (7, a 7), (8, a 8), (9, .win kg [] 4 0 n n), (10, .int .i64 i), (11, .win H.length [] 25 0 2 2), (12, .int .i64 k), (13, .int .i64 j), (14, a 14), (15, a 15), (16, a 16), (23, a 23), (56, a 56), (67, a 67), (84, a 84), (95, a 95), (139, a 139), (147, a 147)])) n ⟨rfl, Nat.zero_le _, -1, (n : Int) - 1, by rw [List.drop_of_length_le (by simp)]; rfl, by omega, rfl⟩ ?_
      rintro m env hh ⟨rfl, hm, k, j, hk, hj, henv⟩
      refine ⟨hm, ?_⟩
      rw [henv]
      generalize lk env = a
      clear henv env
      by_cases hmn : m < n
      · obtain ⟨jn, hjn⟩ : ∃ jn : Nat, jn = n - 1 - m := ⟨_, rfl⟩
        have hj' : j = (jn : Int) := by omega
        subst hj'
        have hnx := @QO.next n m (cO l gl i) k
        rw [← hjn] at hnx
        have hjl : jn < l.length := by omega
        have hjn2 : jn < n := by omega
        have fj : decide ((0 : Int) ≤ (jn : Int)) = true := by simp
        have hxj : l[jn]? = some (l.getD jn 0) := by rw [List.getD_eq_getElem?_getD, List.getElem?_eq_getElem hjl]; rfl
        have hgj : (gl.map AV.bool)[jn]? = some (.bool (gl.getD jn false)) := by
          have : jn < gl.length := by omega
          rw [List.getElem?_map, List.getD_eq_getElem?_getD, List.getElem?_eq_getElem this]; rfl
        have hwj : IntKind.wrap .i64 ((jn : Int) - 1) = (jn : Int) - 1 := IntWalk.i64_in _ (by omega)
        cases hgb : gl.getD jn false with
        | true =>
          rw [hgb] at hgj
          repeat' (first
    | simp (implicitDefEqProofs := false) only [push_cast, reduceIte, reduceCtorEq, Nat.reduceAdd, Nat.reduceSub, Nat.reduceEqDiff, Nat.reduceLT, Nat.reduceLeDiff, Nat.reduceBEq, Nat.reduceMul, Int.reduceLT, Int.reduceLE, Int.reduceEq, Int.reduceToNat, Int.reduceMul, Int.reduceNeg, Go.Proofs.Try.f6, eS_ty, eS_pl, eS_wk, List.length_map, a0, a1, hk2, hkg, fj, in_row hjl, in_row hjn2, getD_map (AV.int .i64) hxj, hgj, hwj, Int.toNat_natCast, Nat.zero_add, hm4, ap_lo, st_lo, st_ne, st_eq, len_st, st_st, sst, at_set, at_set0, at_set2, at_set20, sst2, List.replicate_succ, List.drop_zero, ne_hi hk2, ne_hi' hk2, ne_h hk2, ne_h' hk2, ne_hi hkg, ne_hi' hkg, ne_h hkg, ne_h' hkg]
    | refine Sp2.f ?_ ?_
    | refine Spl.f ?_ ?_ <;> intro hb
    | refine rq_mk rfl (fun b hb => ?_))
          exact ⟨rfl, hmn, k, (jn : Int) - 1, hnx hmn hk (by simp only [cO, hgb]; rfl), by omega, rfl⟩
        | false =>
          rw [hgb] at hgj
          by_cases hv : vO l jn = ci
          · have fv : (bits .and .i64 (l.getD jn 0) 3 == ci) = true := beq_iff_eq.2 hv
            repeat' (first
    | simp (implicitDefEqProofs := false) only [push_cast, reduceIte, reduceCtorEq, Nat.reduceAdd, Nat.reduceSub, Nat.reduceEqDiff, Nat.reduceLT, Nat.reduceLeDiff, Nat.reduceBEq, Nat.reduceMul, Int.reduceLT, Int.reduceLE, Int.reduceEq, Int.reduceToNat, Int.reduceMul, Int.reduceNeg, Go.Proofs.Try.f6, eS_ty, eS_pl, eS_wk, List.length_map, a0, a1, hk2, hkg, fj, in_row hjl, in_row hjn2, getD_map (AV.int .i64) hxj, hgj, hwj, Int.toNat_natCast, Nat.zero_add, hm4, fv, ap_lo, st_lo, st_ne, st_eq, len_st, st_st, sst, at_set, at_set0, at_set2, at_set20, sst2, List.replicate_succ, List.drop_zero, ne_hi hk2, ne_hi' hk2, ne_h hk2, ne_h' hk2, ne_hi hkg, ne_hi' hkg, ne_h hkg, ne_h' hkg]
    | refine Sp2.f ?_ ?_
    | refine Spl.f ?_ ?_ <;> intro hb
    | refine rq_mk rfl (fun b hb => ?_))
            exact ⟨rfl, hmn, (jn : Int), (jn : Int) - 1, hnx hmn hk (by rw [if_pos]; simp only [cO, hgb]; rw [hci] at hv; rw [beq_iff_eq.2 hv]; rfl), by omega, rfl⟩
          · have fv : (bits .and .i64 (l.getD jn 0) 3 == ci) = false := beq_eq_false_iff_ne.2 hv
            repeat' (first
    | simp (implicitDefEqProofs := false) only [push_cast, reduceIte, reduceCtorEq, Nat.reduceAdd, Nat.reduceSub, Nat.reduceEqDiff, Nat.reduceLT, Nat.reduceLeDiff, Nat.reduceBEq, Nat.reduceMul, Int.reduceLT, Int.reduceLE, Int.reduceEq, Int.reduceToNat, Int.reduceMul, Int.reduceNeg, Go.Proofs.Try.f6, eS_ty, eS_pl, eS_wk, List.length_map, a0, a1, hk2, hkg, fj, in_row hjl, in_row hjn2, getD_map (AV.int .i64) hxj, hgj, hwj, Int.toNat_natCast, Nat.zero_add, hm4, fv, ap_lo, st_lo, st_ne, st_eq, len_st, st_st, sst, at_set, at_set0, at_set2, at_set20, sst2, List.replicate_succ, List.drop_zero, ne_hi hk2, ne_hi' hk2, ne_h hk2, ne_h' hk2, ne_hi hkg, ne_hi' hkg, ne_h hkg, ne_h' hkg]
    | refine Sp2.f ?_ ?_
    | refine Spl.f ?_ ?_ <;> intro hb
    | refine rq_mk rfl (fun b hb => ?_))
            exact ⟨rfl, hmn, k, (jn : Int) - 1, hnx hmn hk (by rw [if_neg]; simp only [cO, hgb]; rw [hci] at hv; rw [beq_eq_false_iff_ne.2 hv]; decide), by omega, rfl⟩
      · have e : m = n := by omega
        subst e
        have fj : decide ((0 : Int) ≤ j) = false := by simp; omega
        have hk : k = firstN (cO l gl i) (List.range m) := by simpa using hk
        generalize m = n at *
        have htx : tk[i]? = some (tk.getD i false) := by
          rw [List.getD_eq_getElem?_getD, List.getElem?_eq_getElem hlt]; rfl
        have hw100 : IntKind.wrap .i64 (100 + (i : Int)) = 100 + (i : Int) := IntWalk.i64_in _ (by omega)
        cases htb : tk.getD i false with
        | true =>
          rw [htb] at htx
          cases hf : (List.range n).find? (cO l gl i) with
          | none =>
            obtain ⟨q1, q2⟩ := ho.none h30 (kd := 3) (.inr rfl) hf
            have d1 := c_Do s 50 (rlO i 3) ho.c.ms.small ⟨by simp [rlO, pO], by simp [rlO]⟩
            rw [q1] at d1
            generalize (doS s 50 (rlO i 3)).1 = s' at d1 q2
            have hk1 : k = -1 := by rw [hk, firstN, hf]
            subst hk1
            have hrep : eR (rep (rlO i 3) 3 []) = .agg 30 [.int .i64 ci, .int .i64 (100 + (i : Int)), .int .i64 3, eFs [], .bool false] := by rw [hci]; rfl
            repeat' (first
    | simp (implicitDefEqProofs := false) only [push_cast, reduceIte, reduceCtorEq, Nat.reduceAdd, Nat.reduceSub, Nat.reduceEqDiff, Nat.reduceLT, Nat.reduceLeDiff, Nat.reduceBEq, Nat.reduceMul, Int.reduceLT, Int.reduceLE, Int.reduceEq, Int.reduceToNat, Int.reduceMul, Int.reduceNeg, Go.Proofs.Try.f6, eS_ty, eS_pl, eS_wk, List.length_map, a0, a1, hk2, hkg, fj, in_row hlt, getD_map AV.bool htx, hw100, Int.toNat_natCast, Nat.zero_add, hm4, ap_lo, st_lo, st_ne, st_eq, len_st, st_st, sst, at_set, at_set0, at_set2, at_set20, sst2, List.replicate_succ, List.drop_zero, ne_hi hk2, ne_hi' hk2, ne_h hk2, ne_h' hk2, ne_hi hkg, ne_hi' hkg, ne_h hkg, ne_h' hkg]
    | refine Sp2.f ?_ ?_
    | refine Spl.f ?_ ?_ <;> intro hb
    | refine rq_mk rfl (fun b hb => ?_))
            refine k_give wfp (k := H.length) (e := ⟨25, [eF (nF ci), eF ⟨3, 0, ByteArray.empty⟩], .own⟩) (get_at0 H _) rfl (by simp) ?_ d1 ?_
            · subst hci
              simp only [List.map_cons, List.map_nil, bz_dat 4 _ (eS_dat _), bz_aggE, bz_winE, bz_intE, bz_listE, set_at0, get_at0, fzE, List.set_cons_succ, List.set_cons_zero, List.getElem?_cons_succ, List.getElem?_cons_zero, bzWin_fz, List.length_cons, List.length_nil, Nat.zero_add, Nat.reduceAdd, Nat.le_refl, if_true, List.drop_zero, List.take_succ_cons, List.take_zero]
              rfl
            repeat' (first
    | simp (implicitDefEqProofs := false) only [push_cast, reduceIte, reduceCtorEq, Nat.reduceAdd, Nat.reduceSub, Nat.reduceEqDiff, Nat.reduceLT, Nat.reduceLeDiff, Nat.reduceBEq, Nat.reduceMul, Int.reduceLT, Int.reduceLE, Int.reduceEq, Int.reduceToNat, Int.reduceMul, Int.reduceNeg, Go.Proofs.Try.f6, eS_ty, eS_pl, eS_wk, List.length_map, a0, a1, hk2, hkg, fj, in_row hlt, getD_map AV.bool htx, hw100, Int.toNat_natCast, Nat.zero_add, hm4, ap_lo, st_lo, st_ne, st_eq, len_st, st_st, sst, at_set, at_set0, at_set2, at_set20, sst2, List.replicate_succ, List.drop_zero, ne_hi hk2, ne_hi' hk2, ne_h hk2, ne_h' hk2, ne_hi hkg, ne_hi' hkg, ne_h hkg, ne_h' hkg, wrap_succ hi9, fzE, eRs, hrep, eFs, List.map_cons, List.map_nil, List.getD_cons_zero, List.getD_cons_succ, cast0, cast1, cast2, Int.reduceBEq, Int.reduceBNe, bn1, bn2, bn3, bn4, bt1, bt2, bt3, bt4, bne_self_eq_false]
    | refine Sp2.f ?_ ?_
    | refine Spl.f ?_ ?_ <;> intro hb
    | refine rq_mk rfl (fun b hb => ?_))
            exact ⟨s', gl, q2, hlt, h30, tk_keep hT hk2, get_keep hk2, get_stay a1 (by omega), rfl⟩
          | some k0 =>
            obtain ⟨q1, q2⟩ := ho.some h30 (kd := 3) (.inr rfl) hf
            have d1 := c_Do s 50 (rlO i 3) ho.c.ms.small ⟨by simp [rlO, pO], by simp [rlO]⟩
            rw [q1] at d1
            generalize (doS s 50 (rlO i 3)).1 = s' at d1 q2
            have hk1 : k = (k0 : Int) := by rw [hk, firstN, hf]
            subst hk1
            have hk0 := find_lt hf
            have fk0 : decide ((0 : Int) ≤ (k0 : Int)) = true := by simp
            have gset : ∀ E : Entry, (H.set h.length E)[kg]? = some ⟨4, gl.map .bool, .own⟩ := fun E => by rw [List.getElem?_set_ne (by omega)]; exact a1
            have gk0 : (gl.map AV.bool)[k0]? = some (.bool (gl.getD k0 false)) := by
              have : k0 < gl.length := by omega
              rw [List.getElem?_map, List.getD_eq_getElem?_getD, List.getElem?_eq_getElem this]; rfl
            have hrep : eR (rep (rlO i 3) 2 [nF (vO l k0), nF k0]) = .agg 30 [.int .i64 ci, .int .i64 (100 + (i : Int)), .int .i64 2, .list 25 [.agg 25 [.int .i64 1, .int .i64 (vO l k0), .str ByteArray.empty], .agg 25 [.int .i64 1, .int .i64 k0, .str ByteArray.empty]], .bool false] := by rw [hci]; rfl
            repeat' (first
    | simp (implicitDefEqProofs := false) only [push_cast, reduceIte, reduceCtorEq, Nat.reduceAdd, Nat.reduceSub, Nat.reduceEqDiff, Nat.reduceLT, Nat.reduceLeDiff, Nat.reduceBEq, Nat.reduceMul, Int.reduceLT, Int.reduceLE, Int.reduceEq, Int.reduceToNat, Int.reduceMul, Int.reduceNeg, Go.Proofs.Try.f6, eS_ty, eS_pl, eS_wk, List.length_map, a0, a1, hk2, hkg, fj, in_row hlt, getD_map AV.bool htx, hw100, Int.toNat_natCast, Nat.zero_add, hm4, ap_lo, st_lo, st_ne, st_eq, len_st, st_st, sst, at_set, at_set0, at_set2, at_set20, sst2, List.replicate_succ, List.drop_zero, ne_hi hk2, ne_hi' hk2, ne_h hk2, ne_h' hk2, ne_hi hkg, ne_hi' hkg, ne_h hkg, ne_h' hkg]
    | refine Sp2.f ?_ ?_
    | refine Spl.f ?_ ?_ <;> intro hb
    | refine rq_mk rfl (fun b hb => ?_))
            refine k_give wfp (k := H.length) (e := ⟨25, [eF (nF ci), eF ⟨3, 0, ByteArray.empty⟩], .own⟩) (get_at0 H _) rfl (by simp) ?_ d1 ?_
            · subst hci
              simp only [List.map_cons, List.map_nil, bz_dat 4 _ (eS_dat _), bz_aggE, bz_winE, bz_intE, bz_listE, set_at0, get_at0, fzE, List.set_cons_succ, List.set_cons_zero, List.getElem?_cons_succ, List.getElem?_cons_zero, bzWin_fz, List.length_cons, List.length_nil, Nat.zero_add, Nat.reduceAdd, Nat.le_refl, if_true, List.drop_zero, List.take_succ_cons, List.take_zero]
              rfl
            repeat' (first
    | simp (implicitDefEqProofs := false) only [push_cast, reduceIte, reduceCtorEq, Nat.reduceAdd, Nat.reduceSub, Nat.reduceEqDiff, Nat.reduceLT, Nat.reduceLeDiff, Nat.reduceBEq, Nat.reduceMul, Int.reduceLT, Int.reduceLE, Int.reduceEq, Int.reduceToNat, Int.reduceMul, Int.reduceNeg, Go.Proofs.Try.f6, eS_ty, eS_pl, eS_wk, List.length_map, a0, a1, hk2, hkg, fj, in_row hlt, getD_map AV.bool htx, hw100, Int.toNat_natCast, Nat.zero_add, hm4, ap_lo, st_lo, st_ne, st_eq, len_st, st_st, sst, at_set, at_set0, at_set2, at_set20, sst2, List.replicate_succ, List.drop_zero, ne_hi hk2, ne_hi' hk2, ne_h hk2, ne_h' hk2, ne_hi hkg, ne_hi' hkg, ne_h hkg, ne_h' hkg, wrap_succ hi9, fzE, eRs, hrep, eFs, List.map_cons, List.map_nil, List.getD_cons_zero, List.getD_cons_succ, cast0, cast1, cast2, Int.reduceBEq, Int.reduceBNe, bn1, bn2, bn3, bn4, bt1, bt2, bt3, bt4, bne_self_eq_false, fk0, in_row hk0, gset, gk0]
    | refine Sp2.f ?_ ?_
    | refine Spl.f ?_ ?_ <;> intro hb
    | refine rq_mk rfl (fun b hb => ?_))
            rw [if_pos rfl] at q2
            exact ⟨s', gl.set k0 true, q2, hlt, h30, tk_keep2 hT hk2 hkl, get_keep2 hk2 hkl, by rw [get_keep3 hkg, List.map_set], rfl⟩
        | false =>
          rw [htb] at htx
          cases hf : (List.range n).find? (cO l gl i) with
          | none =>
            obtain ⟨q1, q2⟩ := ho.none h30 (kd := 2) (.inl rfl) hf
            have d1 := c_Do s 50 (rlO i 2) ho.c.ms.small ⟨by simp [rlO, pO], by simp [rlO]⟩
            rw [q1] at d1
            generalize (doS s 50 (rlO i 2)).1 = s' at d1 q2
            have hk1 : k = -1 := by rw [hk, firstN, hf]
            subst hk1
            have hrep : eR (rep (rlO i 2) 3 []) = .agg 30 [.int .i64 ci, .int .i64 (100 + (i : Int)), .int .i64 3, eFs [], .bool false] := by rw [hci]; rfl
            repeat' (first
    | simp (implicitDefEqProofs := false) only [push_cast, reduceIte, reduceCtorEq, Nat.reduceAdd, Nat.reduceSub, Nat.reduceEqDiff, Nat.reduceLT, Nat.reduceLeDiff, Nat.reduceBEq, Nat.reduceMul, Int.reduceLT, Int.reduceLE, Int.reduceEq, Int.reduceToNat, Int.reduceMul, Int.reduceNeg, Go.Proofs.Try.f6, eS_ty, eS_pl, eS_wk, List.length_map, a0, a1, hk2, hkg, fj, in_row hlt, getD_map AV.bool htx, hw100, Int.toNat_natCast, Nat.zero_add, hm4, ap_lo, st_lo, st_ne, st_eq, len_st, st_st, sst, at_set, at_set0, at_set2, at_set20, sst2, List.replicate_succ, List.drop_zero, ne_hi hk2, ne_hi' hk2, ne_h hk2, ne_h' hk2, ne_hi hkg, ne_hi' hkg, ne_h hkg, ne_h' hkg]
    | refine Sp2.f ?_ ?_
    | refine Spl.f ?_ ?_ <;> intro hb
    | refine rq_mk rfl (fun b hb => ?_))
            refine k_give wfp (k := H.length) (e := ⟨25, [eF (nF ci), eF ⟨3, 0, ByteArray.empty⟩], .own⟩) (get_at0 H _) rfl (by simp) ?_ d1 ?_
            · subst hci
              simp only [List.map_cons, List.map_nil, bz_dat 4 _ (eS_dat _), bz_aggE, bz_winE, bz_intE, bz_listE, set_at0, get_at0, fzE, List.set_cons_succ, List.set_cons_zero, List.getElem?_cons_succ, List.getElem?_cons_zero, bzWin_fz, List.length_cons, List.length_nil, Nat.zero_add, Nat.reduceAdd, Nat.le_refl, if_true, List.drop_zero, List.take_succ_cons, List.take_zero]
              rfl
            repeat' (first
    | simp (implicitDefEqProofs := false) only [push_cast, reduceIte, reduceCtorEq, Nat.reduceAdd, Nat.reduceSub, Nat.reduceEqDiff, Nat.reduceLT, Nat.reduceLeDiff, Nat.reduceBEq, Nat.reduceMul, Int.reduceLT, Int.reduceLE, Int.reduceEq, Int.reduceToNat, Int.reduceMul, Int.reduceNeg, Go.Proofs.Try.f6, eS_ty, eS_pl, eS_wk, List.length_map, a0, a1, hk2, hkg, fj, in_row hlt, getD_map AV.bool htx, hw100, Int.toNat_natCast, Nat.zero_add, hm4, ap_lo, st_lo, st_ne, st_eq, len_st, st_st, sst, at_set, at_set0, at_set2, at_set20, sst2, List.replicate_succ, List.drop_zero, ne_hi hk2, ne_hi' hk2, ne_h hk2, ne_h' hk2, ne_hi hkg, ne_hi' hkg, ne_h hkg, ne_h' hkg, wrap_succ hi9, fzE, eRs, hrep, eFs, List.map_cons, List.map_nil, List.getD_cons_zero, List.getD_cons_succ, cast0, cast1, cast2, Int.reduceBEq, Int.reduceBNe, bn1, bn2, bn3, bn4, bt1, bt2, bt3, bt4, bne_self_eq_false]
    | refine Sp2.f ?_ ?_
    | refine Spl.f ?_ ?_ <;> intro hb
    | refine rq_mk rfl (fun b hb => ?_))
            exact ⟨s', gl, q2, hlt, h30, tk_keep hT hk2, get_keep hk2, get_stay a1 (by omega), rfl⟩
          | some k0 =>
            obtain ⟨q1, q2⟩ := ho.some h30 (kd := 2) (.inl rfl) hf
            have d1 := c_Do s 50 (rlO i 2) ho.c.ms.small ⟨by simp [rlO, pO], by simp [rlO]⟩
            rw [q1] at d1
            generalize (doS s 50 (rlO i 2)).1 = s' at d1 q2
            have hk1 : k = (k0 : Int) := by rw [hk, firstN, hf]
            subst hk1
            have hk0 := find_lt hf
            have fk0 : decide ((0 : Int) ≤ (k0 : Int)) = true := by simp
            have hrep : eR (rep (rlO i 2) 2 [nF (vO l k0), nF k0]) = .agg 30 [.int .i64 ci, .int .i64 (100 + (i : Int)), .int .i64 2, .list 25 [.agg 25 [.int .i64 1, .int .i64 (vO l k0), .str ByteArray.empty], .agg 25 [.int .i64 1, .int .i64 k0, .str ByteArray.empty]], .bool false] := by rw [hci]; rfl
            repeat' (first
    | simp (implicitDefEqProofs := false) only [push_cast, reduceIte, reduceCtorEq, Nat.reduceAdd, Nat.reduceSub, Nat.reduceEqDiff, Nat.reduceLT, Nat.reduceLeDiff, Nat.reduceBEq, Nat.reduceMul, Int.reduceLT, Int.reduceLE, Int.reduceEq, Int.reduceToNat, Int.reduceMul, Int.reduceNeg, Go.Proofs.Try.f6, eS_ty, eS_pl, eS_wk, List.length_map, a0, a1, hk2, hkg, fj, in_row hlt, getD_map AV.bool htx, hw100, Int.toNat_natCast, Nat.zero_add, hm4, ap_lo, st_lo, st_ne, st_eq, len_st, st_st, sst, at_set, at_set0, at_set2, at_set20, sst2, List.replicate_succ, List.drop_zero, ne_hi hk2, ne_hi' hk2, ne_h hk2, ne_h' hk2, ne_hi hkg, ne_hi' hkg, ne_h hkg, ne_h' hkg]
    | refine Sp2.f ?_ ?_
    | refine Spl.f ?_ ?_ <;> intro hb
    | refine rq_mk rfl (fun b hb => ?_))
            refine k_give wfp (k := H.length) (e := ⟨25, [eF (nF ci), eF ⟨3, 0, ByteArray.empty⟩], .own⟩) (get_at0 H _) rfl (by simp) ?_ d1 ?_
            · subst hci
              simp only [List.map_cons, List.map_nil, bz_dat 4 _ (eS_dat _), bz_aggE, bz_winE, bz_intE, bz_listE, set_at0, get_at0, fzE, List.set_cons_succ, List.set_cons_zero, List.getElem?_cons_succ, List.getElem?_cons_zero, bzWin_fz, List.length_cons, List.length_nil, Nat.zero_add, Nat.reduceAdd, Nat.le_refl, if_true, List.drop_zero, List.take_succ_cons, List.take_zero]
              rfl
            repeat' (first
    | simp (implicitDefEqProofs := false) only [push_cast, reduceIte, reduceCtorEq, Nat.reduceAdd, Nat.reduceSub, Nat.reduceEqDiff, Nat.reduceLT, Nat.reduceLeDiff, Nat.reduceBEq, Nat.reduceMul, Int.reduceLT, Int.reduceLE, Int.reduceEq, Int.reduceToNat, Int.reduceMul, Int.reduceNeg, Go.Proofs.Try.f6, eS_ty, eS_pl, eS_wk, List.length_map, a0, a1, hk2, hkg, fj, in_row hlt, getD_map AV.bool htx, hw100, Int.toNat_natCast, Nat.zero_add, hm4, ap_lo, st_lo, st_ne, st_eq, len_st, st_st, sst, at_set, at_set0, at_set2, at_set20, sst2, List.replicate_succ, List.drop_zero, ne_hi hk2, ne_hi' hk2, ne_h hk2, ne_h' hk2, ne_hi hkg, ne_hi' hkg, ne_h hkg, ne_h' hkg, wrap_succ hi9, fzE, eRs, hrep, eFs, List.map_cons, List.map_nil, List.getD_cons_zero, List.getD_cons_succ, cast0, cast1, cast2, Int.reduceBEq, Int.reduceBNe, bn1, bn2, bn3, bn4, bt1, bt2, bt3, bt4, bne_self_eq_false, fk0, in_row hk0]
    | refine Sp2.f ?_ ?_
    | refine Spl.f ?_ ?_ <;> intro hb
    | refine rq_mk rfl (fun b hb => ?_))
            rw [if_neg (by decide)] at q2
            exact ⟨s', gl, q2, hlt, h30, tk_keep hT hk2, get_keep hk2, get_stay a1 (by omega), rfl⟩
    · have hends : decide ((i : Int) < (tk.length : Int)) = false ∨ (decide ((i : Int) < (tk.length : Int)) = true ∧ decide ((i : Int) < 30) = false) := by
        by_cases h : i < tk.length
        · exact .inr ⟨cast_lt h, by simp; omega⟩
        · exact .inl (cast_ge h)
      rcases hends with c1 | ⟨c1, c2⟩
      · repeat' (first
    | simp (implicitDefEqProofs := false) only [push_cast, reduceIte, reduceCtorEq, Nat.reduceAdd, Nat.reduceSub, Nat.reduceEqDiff, Nat.reduceLT, Nat.reduceLeDiff, Nat.reduceBEq, Nat.reduceMul, Int.reduceLT, Int.reduceLE, Int.reduceEq, Int.reduceToNat, Int.reduceMul, Int.reduceNeg, Go.Proofs.Try.f6, List.length_map, c1, hT, ap_lo, st_lo, st_ne, st_eq, len_st, st_st, sst, at_set, at_set0, at_set2, at_set20, sst2, List.replicate_succ, List.drop_zero]
    | refine Sp2.f ?_ ?_
    | refine Spl.f ?_ ?_ <;> intro hb
    | refine rq_mk rfl (fun b hb => ?_)
    | refine k_fn c_told ?_)
      · repeat' (first
    | simp (implicitDefEqProofs := false) only [push_cast, reduceIte, reduceCtorEq, Nat.reduceAdd, Nat.reduceSub, Nat.reduceEqDiff, Nat.reduceLT, Nat.reduceLeDiff, Nat.reduceBEq, Nat.reduceMul, Int.reduceLT, Int.reduceLE, Int.reduceEq, Int.reduceToNat, Int.reduceMul, Int.reduceNeg, Go.Proofs.Try.f6, List.length_map, c1, c2, hT, ap_lo, st_lo, st_ne, st_eq, len_st, st_st, sst, at_set, at_set0, at_set2, at_set20, sst2, List.replicate_succ, List.drop_zero]
    | refine Sp2.f ?_ ?_
    | refine Spl.f ?_ ?_ <;> intro hb
    | refine rq_mk rfl (fun b hb => ?_)
    | refine k_fn c_told ?_)

end Go.Abs
