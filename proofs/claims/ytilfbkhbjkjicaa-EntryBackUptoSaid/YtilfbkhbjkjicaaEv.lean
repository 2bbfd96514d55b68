/- Ev: a part of the proofs about the tuple space and its bytes. -/
import Derived.Test.YtilfbkhbjkjicaaEt
import Derived.Test.YtilfbkhbjkjicaaBx
set_option linter.all false
set_option maxRecDepth 100000
set_option maxHeartbeats 0
namespace Go.Abs
open Go
open Go.Proofs.Try (prog)
/-! ### EntryBack -/
theorem sameQ_eq {x y : Req} (h : sameQ x y = true) : x = y := by
  simp only [sameQ, Bool.and_eq_true, beq_iff_eq] at h
  obtain ⟨a, b, c, d, e, f⟩ := h
  have e := sameT_eq e
  have f := sameT_eq f
  cases x; cases y; simp_all
theorem sameE_eq {p q : Ent} (h : sameE p q = true) : p = q := by
  simp only [sameE, Bool.and_eq_true, beq_iff_eq] at h
  obtain ⟨a, b⟩ := h
  have b := all2_eq (fun _ _ => sameQ_eq) b
  cases p; cases q; simp_all
theorem sameT_rfl9 (l : List Fld) : sameT l l = true := all2_refl fun x _ => same_refl x
theorem sameE_rfl (p : Ent) : sameE p p = true := by
  have h : all2 sameQ p.List p.List = true := all2_refl fun x _ => by simp [sameQ, sameT_rfl9]
  simp [sameE, h]
theorem put_sameE {p q : Ent} (hp : mayE p = true) (hq : mayE q = true) (ip : p.In) (iq : q.In) : (putE p == putE q) = sameE p q := by
  cases h : sameE p q with
  | true => rw [sameE_eq h]; simp
  | false =>
    rw [beq_eq_false_iff_ne]
    intro e
    rw [putE_inj hp ip hq iq e, sameE_rfl] at h
    cases h
theorem putE_len {e : Ent} (h : mayE e = true) : 1 ≤ (putE e).length ∧ (putE e).length ≤ 5000 := by
  have hf := fm_len (fun x => textB (putQ x)) 604 textQ_len e.List
  simp only [mayE, headE, Bool.and_eq_true, decide_eq_true_eq] at h
  simp only [putE, nb, List.length_append, beN_len]
  omega
theorem c_EntryBack (p q : Ent) (at' : Int) (c : UInt8) (hp : p.Small) (hq : q.Small) (ip : p.In) (iq : q.In) : Fn prog 5 [eE p, eE q, .int .i64 at', .int .u8 c.toNat] (.bool true) := by
  refine run_5 rfl fun h => ?_
  have f1 := c_Few11 p hp
  have f2 := c_Few11 q hq
  cases hf1 : fewE p with
  | false =>
    rw [hf1] at f1
    repeat' (first
    | simp (implicitDefEqProofs := false) only [push_cast, reduceIte, reduceCtorEq, Nat.reduceAdd, Nat.reduceSub, Nat.reduceEqDiff, Nat.reduceLT, Nat.reduceLeDiff, Nat.reduceBEq, Nat.reduceMul, Int.reduceLT, Int.reduceLE, Int.reduceEq, Int.reduceToNat, Int.reduceMul, Int.reduceNeg, Go.Proofs.Try.f5, eE_ty, eE_pl, eE_wk, ap_lo, st_lo, st_ne, st_eq, len_st, st_st, sst, at_set, at_set0, at_set2, at_set20, sst2, List.replicate_succ, List.drop_zero]
    | refine Sp2.f ?_ ?_
    | refine Spl.f ?_ ?_ <;> intro hb
    | refine rq_mk rfl (fun b hb => ?_)
    | refine r_draw (U := [[], [], [], [], [], [], [], [], [], [], [], [], [], [], [], [], [15], [15], [], [], [], [], []]) (H := []) hmix (by kernel_rfl) (by decide +kernel) (by kernel_rfl) ?_
    | refine k_fn f1 ?_
    | refine k_fn c_told11 ?_)
  | true =>
  rw [hf1] at f1
  cases hf2 : fewE q with
  | false =>
    rw [hf2] at f2
    repeat' (first
    | simp (implicitDefEqProofs := false) only [push_cast, reduceIte, reduceCtorEq, Nat.reduceAdd, Nat.reduceSub, Nat.reduceEqDiff, Nat.reduceLT, Nat.reduceLeDiff, Nat.reduceBEq, Nat.reduceMul, Int.reduceLT, Int.reduceLE, Int.reduceEq, Int.reduceToNat, Int.reduceMul, Int.reduceNeg, Go.Proofs.Try.f5, eE_ty, eE_pl, eE_wk, ap_lo, st_lo, st_ne, st_eq, len_st, st_st, sst, at_set, at_set0, at_set2, at_set20, sst2, List.replicate_succ, List.drop_zero]
    | refine Sp2.f ?_ ?_
    | refine Spl.f ?_ ?_ <;> intro hb
    | refine rq_mk rfl (fun b hb => ?_)
    | refine r_draw (U := [[], [], [], [], [], [], [], [], [], [], [], [], [], [], [], [], [15], [15], [], [], [], [], []]) (H := []) hmix (by kernel_rfl) (by decide +kernel) (by kernel_rfl) ?_
    | refine k_fn f1 ?_
    | refine k_fn f2 ?_
    | refine k_fn c_told11 ?_)
  | true =>
  rw [hf2] at f2
  have p1 := c_ePut p hp
  have m1 := c_MayEntry6 p hp
  have b20 : ((2 : Int) != 0) = true := rfl
  have b10 : ((1 : Int) != 0) = true := rfl
  have b00 : ((0 : Int) != 0) = false := rfl
  have b22 : ((2 : Int) == 2) = true := rfl
  cases hm1 : mayE p with
  | false =>
    rw [hm1] at p1 m1
    repeat' (first
    | simp (implicitDefEqProofs := false) only [push_cast, reduceIte, reduceCtorEq, Nat.reduceAdd, Nat.reduceSub, Nat.reduceEqDiff, Nat.reduceLT, Nat.reduceLeDiff, Nat.reduceBEq, Nat.reduceMul, Int.reduceLT, Int.reduceLE, Int.reduceEq, Int.reduceToNat, Int.reduceMul, Int.reduceNeg, Go.Proofs.Try.f5, b10, eE_ty, eE_pl, eE_wk, ap_lo, st_lo, st_ne, st_eq, len_st, st_st, sst, at_set, at_set0, at_set2, at_set20, sst2, List.replicate_succ, List.drop_zero]
    | refine Sp2.f ?_ ?_
    | refine Spl.f ?_ ?_ <;> intro hb
    | refine rq_mk rfl (fun b hb => ?_)
    | refine r_draw (U := [[], [], [], [], [], [], [], [], [], [], [], [], [], [], [], [], [15], [15], [], [], [], [], []]) (H := []) hmix (by kernel_rfl) (by decide +kernel) (by kernel_rfl) ?_
    | refine k_fn f1 ?_
    | refine k_fn f2 ?_
    | refine k_fn p1 ?_
    | refine k_fn m1 ?_
    | refine k_fn c_told11 ?_)
  | true =>
  rw [hm1] at p1 m1
  obtain ⟨hl1, hl2⟩ := putE_len hm1
  obtain ⟨k, hk, hkl⟩ := mod_len at' (m := (putE p).length) hl1 (by omega)
  have g1 := c_eGet (putE p) (by omega)
  rw [getEn_put hm1 ip] at g1
  have e1 := c_same11 p p hp hp
  rw [sameE_rfl] at e1
  have g2 := c_eGet ((putE p).take k) (by simp; omega)
  rw [getEn_less hm1 ip (b := (putE p).take k) (c := (putE p).drop k) (List.take_append_drop ..).symm (by intro e; have := congrArg List.length e; simp at this; omega)] at g2
  have g3 := c_eGet (putE p ++ [c]) (by simp; omega)
  rw [getEn_more hm1 ip (by simp)] at g3
  have z0 : (((putE p).length : Int) == 0) = false := by rw [beq_eq_false_iff_ne]; omega
  have n0 : (IntKind.wrap .u64 ((putE p).length : Int) = 0) = False := by
    rw [wrap_u64]; apply eq_false; omega
  have hkle : ((0 : Int) ≤ (k : Int) ∧ (k : Int) ≤ ((putE p).length : Int)) = True := by apply eq_true; omega
  have hmt : List.take k ((putE p).map eB) = ((putE p).take k).map eB := List.map_take.symm
  have q0 : (0 = (putE p).length) = False := by apply eq_false; omega
  have q1 : ((putE p).length = 0) = False := by apply eq_false; omega
  have q2 : ((putE p).length ≤ 0) = False := by apply eq_false; omega
  have q3 : ((putE p).length + 1 ≤ (putE p).length) = False := by apply eq_false; omega
  have q4 : decide ((putE p).length ≤ 4294967296) = true := by simp; omega
  have q5 : decide ((putE p).length + 1 ≤ 4294967296) = true := by simp; omega
  have q5' : ((putE p).length ≤ 4294967295) = True := by apply eq_true; omega
  have q6 : List.take (putE p).length ((putE p).map eB) = (putE p).map eB := by rw [List.take_of_length_le]; simp
  have p2 := c_ePut q hq
  have s1 := c_Same1 (putE p) (putE q)
  have s2 := c_same11 p q hp hq
  have hps := fun hm2 => put_sameE hm1 hm2 ip iq
  generalize putE p = B at *
  repeat' (first
    | simp (implicitDefEqProofs := false) only [push_cast, reduceIte, reduceCtorEq, Nat.reduceAdd, Nat.reduceSub, Nat.reduceEqDiff, Nat.reduceLT, Nat.reduceLeDiff, Nat.reduceBEq, Nat.reduceMul, Int.reduceLT, Int.reduceLE, Int.reduceEq, Int.reduceToNat, Int.reduceMul, Int.reduceNeg, Go.Proofs.Try.f5, eE_ty, eE_pl, eE_wk, eBs, b00, b20, b22, z0, n0, hk, hkle, hmt, q0, q1, q2, q3, q4, q5, q5', q6, Nat.le_refl, List.length_map, Int.toNat_natCast, ap_lo, st_lo, st_ne, st_eq, len_st, st_st, sst, at_set, at_set0, at_set2, at_set20, sst2, List.replicate_succ, List.drop_zero]
    | refine Sp2.f ?_ ?_
    | refine Spl.f ?_ ?_ <;> intro hb
    | refine rq_mk rfl (fun b hb => ?_)
    | refine r_draw (U := [[], [], [], [], [], [], [], [], [], [], [], [], [], [], [], [], [15], [15], [], [], [], [], []]) (H := []) hmix (by kernel_rfl) (by decide +kernel) (by kernel_rfl) ?_
    | refine k_fn f1 ?_
    | refine k_fn f2 ?_
    | refine k_fn p1 ?_
    | refine k_fn g1 ?_
    | refine k_fn e1 ?_
    | refine k_fn g2 ?_)
  refine k_giveBs (k := h.length + 7) (n := B.length + 1) (l := B ++ [c]) (es := B.map eB ++ [.int .u8 c.toNat]) ?_ (by rw [List.map_append]; rfl) (by simp) (by simp) g3 ?_
  · exact get_at h _ 7
  have eBB : ∀ b : Bool, (b == b) = true := fun b => by cases b <;> rfl
  cases hm2 : mayE q with
  | false =>
    rw [hm2] at p2
    repeat' (first
    | simp (implicitDefEqProofs := false) only [push_cast, reduceIte, reduceCtorEq, Nat.reduceAdd, Nat.reduceSub, Nat.reduceEqDiff, Nat.reduceLT, Nat.reduceLeDiff, Nat.reduceBEq, Nat.reduceMul, Int.reduceLT, Int.reduceLE, Int.reduceEq, Int.reduceToNat, Int.reduceMul, Int.reduceNeg, Go.Proofs.Try.f5, eE_ty, eE_pl, eE_wk, eBs_ty, eBs_pl, eBs_wk, b00, b10, b20, b22, ap_lo, st_lo, st_ne, st_eq, len_st, st_st, sst, at_set, at_set0, at_set2, at_set20, sst2, List.replicate_succ, List.drop_zero]
    | refine Sp2.f ?_ ?_
    | refine Spl.f ?_ ?_ <;> intro hb
    | refine rq_mk rfl (fun b hb => ?_)
    | refine r_draw (U := [[], [], [], [], [], [], [], [], [], [], [], [], [], [], [], [], [15], [15], [], [], [], [], []]) (H := []) hmix (by kernel_rfl) (by decide +kernel) (by kernel_rfl) ?_
    | refine k_fn p2 ?_
    | refine dk_pure c_told11 ?_)
  | true =>
    rw [hm2] at p2
    rw [hps hm2] at s1
    generalize sameE p q = b at s1 s2
    repeat' (first
    | simp (implicitDefEqProofs := false) only [push_cast, reduceIte, reduceCtorEq, Nat.reduceAdd, Nat.reduceSub, Nat.reduceEqDiff, Nat.reduceLT, Nat.reduceLeDiff, Nat.reduceBEq, Nat.reduceMul, Int.reduceLT, Int.reduceLE, Int.reduceEq, Int.reduceToNat, Int.reduceMul, Int.reduceNeg, Go.Proofs.Try.f5, eE_ty, eE_pl, eE_wk, eBs_ty, eBs_pl, eBs_wk, b00, b10, b20, b22, eBB, ap_lo, st_lo, st_ne, st_eq, len_st, st_st, sst, at_set, at_set0, at_set2, at_set20, sst2, List.replicate_succ, List.drop_zero]
    | refine Sp2.f ?_ ?_
    | refine Spl.f ?_ ?_ <;> intro hb
    | refine rq_mk rfl (fun b hb => ?_)
    | refine r_draw (U := [[], [], [], [], [], [], [], [], [], [], [], [], [], [], [], [], [15], [15], [], [], [], [], []]) (H := []) hmix (by kernel_rfl) (by decide +kernel) (by kernel_rfl) ?_
    | refine k_fn p2 ?_
    | refine dk_pure c_told11 ?_
    | refine dk_pure s1 ?_
    | refine dk_pure s2 ?_)

end Go.Abs
