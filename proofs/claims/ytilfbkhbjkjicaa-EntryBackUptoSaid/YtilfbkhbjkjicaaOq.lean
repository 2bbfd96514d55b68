/- Oq: a part of the proofs about the tuple space and its bytes. -/
import Derived.Test.YtilfbkhbjkjicaaEb
set_option linter.all false
set_option maxRecDepth 100000
set_option maxHeartbeats 0
namespace Go.Abs
open Go
open Go.Proofs.Try (prog)
/-! ### oper.Put -/
theorem c_oFields (l : List Fld) (hl : l.length ≤ 4294967296) : Fn prog 129 [eFs l] (eBs (fieldsB l)) := by
  refine run_129 rfl fun h => ?_
  repeat' (first
    | simp (implicitDefEqProofs := false) only [push_cast, reduceIte, reduceCtorEq, Nat.reduceAdd, Nat.reduceSub, Nat.reduceEqDiff, Nat.reduceLT, Nat.reduceLeDiff, Nat.reduceBEq, Nat.reduceMul, Int.reduceLT, Int.reduceLE, Int.reduceEq, Int.reduceToNat, Int.reduceMul, Int.reduceNeg, Go.Proofs.Try.f129, eFs_ty, eFs_pl, eFs_wk, eBs_ty, eBs_pl, eBs_wk, ap_lo, st_lo, st_ne, st_eq, len_st, st_st, sst, at_set, at_set0, at_set2, List.replicate_succ, List.drop_zero]
    | refine Sp2.f ?_ ?_
    | refine Spl.f ?_ ?_ <;> intro hb
    | refine rq_mk rfl (fun b hb => ?_)
    | refine k_fn (c_tPut l hl) ?_)
  exact ⟨eBs_pl _, by rw [dat_rz _ (eBs_dat _)]; exact dat_below _ (eBs_dat _), dat_rz _ (eBs_dat _)⟩
def putQ (x : Req) : List UInt8 := nb x.Client 1 ++ (nb x.Seq 4 ++ (nb x.Kind 1 ++ (nb x.Lease 8 ++ (textB (fieldsB x.P) ++ textB (fieldsB x.T)))))
def qE (x : Req) : Entry := ⟨60, [eQ x], .own⟩
theorem c_oPut (x : Req) (hx : x.Small) : Fn prog 85 [eQ x] (.tup [eBs (if mayQ x = true then putQ x else []), .int .i64 (if mayQ x = true then 0 else 1)]) := by
  refine pure_wk_tup (R := fun r => ∃ v, r = .tup [v, .int .i64 (if mayQ x = true then 0 else 1)] ∧ RawOK (if mayQ x = true then putQ x else []) v) [30, 3] (fn_tup wfp fun h => ?_) ?_
  rotate_left
  · rintro r ⟨v, rfl, hv⟩
    refine ⟨_, rfl, ⟨hv.ty.1, by rw [ty_int, sh_3]; rfl, trivial⟩, ?_⟩
    simp only [wks, hv.ty.2.2, wk_int]
  refine frun_85 rfl ?_
  have hmay := c_operMay x hx
  cases hm : mayQ x with
  | false =>
    rw [hm] at hmay
    repeat' (first
    | simp (implicitDefEqProofs := false) only [push_cast, reduceIte, reduceCtorEq, Nat.reduceAdd, Nat.reduceSub, Nat.reduceEqDiff, Nat.reduceLT, Nat.reduceLeDiff, Nat.reduceBEq, Nat.reduceMul, Int.reduceLT, Int.reduceLE, Int.reduceEq, Int.reduceToNat, Int.reduceMul, Int.reduceNeg, Go.Proofs.Try.f85, fk_tt, eQ_ty, eQ_pl, eQ_wk, ap_lo, st_lo, st_ne, st_eq, len_st, st_st, sst, at_set, at_set0, at_set2, List.replicate_succ, List.drop_zero]
    | refine Sp2.f ?_ ?_
    | refine Spl.f ?_ ?_ <;> intro hb
    | refine rq_mk rfl (fun b hb => ?_)
    | refine k_fn hmay ?_)
    exact ⟨_, rfl, rfl, .nils, rfl, .inr ⟨rfl, rfl⟩⟩
  | true =>
    rw [hm] at hmay
    have g0 : getP (eQ x) [0] = some (.int .i64 x.Client) := rfl
    have g1 : getP (eQ x) [1] = some (.int .i64 x.Seq) := rfl
    have g2 : getP (eQ x) [2] = some (.int .i64 x.Kind) := rfl
    have g3 : getP (eQ x) [3] = some (eFs x.P) := rfl
    have g4 : getP (eQ x) [4] = some (eFs x.T) := rfl
    have g5 : getP (eQ x) [5] = some (.int .i64 x.Lease) := rfl
    have p0 : PS h.length h (h.length + 1) [] [(h.length, qE x)] (h ++ [qE x, wrE .nils]) := by
      refine ⟨by simp, by simp, fun j => j = h.length + 1, fun j hj => by omega, ⟨fun j hj => by subst hj; simp, rfl, ⟨.nils, get_at .., .nil⟩, Nat.zero_le _⟩, fun c hc => ?_⟩
      rw [List.mem_singleton.1 hc]
      exact ⟨get_at0 .., by simp⟩
    have q0 : FSpec prog 53 [.ref (h.length + 1) [0] 94, .int .u64 (IntKind.u64.wrap x.Client), .int .i64 1] (h ++ [qE x, wrE .nils]) _ := p0.num (IntKind.u64.wrap x.Client) 1 (by omega) (by omega) (by simp)
    repeat' (first
    | simp (implicitDefEqProofs := false) only [push_cast, reduceIte, reduceCtorEq, Nat.reduceAdd, Nat.reduceSub, Nat.reduceEqDiff, Nat.reduceLT, Nat.reduceLeDiff, Nat.reduceBEq, Nat.reduceMul, Int.reduceLT, Int.reduceLE, Int.reduceEq, Int.reduceToNat, Int.reduceMul, Int.reduceNeg, Go.Proofs.Try.f85, g0, eQ_ty, eQ_pl, eQ_wk, ap_lo, st_lo, st_ne, st_eq, len_st, st_st, sst, at_set, at_set0, at_set2, List.replicate_succ, List.drop_zero]
    | refine Sp2.f ?_ ?_
    | refine Spl.f ?_ ?_ <;> intro hb
    | refine rq_mk rfl (fun b hb => ?_)
    | refine k_fn hmay ?_)
    refine k_spec q0 fun v H hp => ?_
    have p1 := hp.2
    clear q0 p0
    have hc := p1.got (List.mem_singleton.2 rfl)
    have q1 : FSpec prog 53 [.ref (h.length + 1) [0] 94, .int .u64 (IntKind.u64.wrap x.Seq), .int .i64 4] H _ := p1.num (IntKind.u64.wrap x.Seq) 4 (by omega) (by omega) (by simp [beN_len])
    repeat' (first
    | simp (implicitDefEqProofs := false) only [push_cast, reduceIte, reduceCtorEq, Nat.reduceAdd, Nat.reduceSub, Nat.reduceEqDiff, Nat.reduceLT, Nat.reduceLeDiff, Nat.reduceBEq, Nat.reduceMul, Int.reduceLT, Int.reduceLE, Int.reduceEq, Int.reduceToNat, Int.reduceMul, Int.reduceNeg, Go.Proofs.Try.f85, hc, qE, g1, ap_lo, st_lo, st_ne, st_eq, len_st, st_st, sst, at_set, at_set0, at_set2, List.replicate_succ, List.drop_zero]
    | refine Sp2.f ?_ ?_
    | refine Spl.f ?_ ?_ <;> intro hb
    | refine rq_mk rfl (fun b hb => ?_))
    refine k_spec q1 fun v H2 hp => ?_
    have p2 := hp.2
    clear q1 p1 hc
    have hc := p2.got (List.mem_singleton.2 rfl)
    have q2 : FSpec prog 53 [.ref (h.length + 1) [0] 94, .int .u64 (IntKind.u64.wrap x.Kind), .int .i64 1] H2 _ := p2.num (IntKind.u64.wrap x.Kind) 1 (by omega) (by omega) (by simp [beN_len])
    repeat' (first
    | simp (implicitDefEqProofs := false) only [push_cast, reduceIte, reduceCtorEq, Nat.reduceAdd, Nat.reduceSub, Nat.reduceEqDiff, Nat.reduceLT, Nat.reduceLeDiff, Nat.reduceBEq, Nat.reduceMul, Int.reduceLT, Int.reduceLE, Int.reduceEq, Int.reduceToNat, Int.reduceMul, Int.reduceNeg, Go.Proofs.Try.f85, hc, qE, g2, ap_lo, st_lo, st_ne, st_eq, len_st, st_st, sst, at_set, at_set0, at_set2, List.replicate_succ, List.drop_zero]
    | refine Sp2.f ?_ ?_
    | refine Spl.f ?_ ?_ <;> intro hb
    | refine rq_mk rfl (fun b hb => ?_))
    refine k_spec q2 fun v H3 hp => ?_
    have p3 := hp.2
    clear q2 p2 hc
    have hc := p3.got (List.mem_singleton.2 rfl)
    have q3 : FSpec prog 53 [.ref (h.length + 1) [0] 94, .int .u64 (IntKind.u64.wrap x.Lease), .int .i64 8] H3 _ := p3.num (IntKind.u64.wrap x.Lease) 8 (by omega) (by omega) (by simp [beN_len])
    repeat' (first
    | simp (implicitDefEqProofs := false) only [push_cast, reduceIte, reduceCtorEq, Nat.reduceAdd, Nat.reduceSub, Nat.reduceEqDiff, Nat.reduceLT, Nat.reduceLeDiff, Nat.reduceBEq, Nat.reduceMul, Int.reduceLT, Int.reduceLE, Int.reduceEq, Int.reduceToNat, Int.reduceMul, Int.reduceNeg, Go.Proofs.Try.f85, hc, qE, g5, ap_lo, st_lo, st_ne, st_eq, len_st, st_st, sst, at_set, at_set0, at_set2, List.replicate_succ, List.drop_zero]
    | refine Sp2.f ?_ ?_
    | refine Spl.f ?_ ?_ <;> intro hb
    | refine rq_mk rfl (fun b hb => ?_))
    refine k_spec q3 fun v H4 hp => ?_
    have p4 := hp.2
    clear q3 p3 hc
    have hc := p4.got (List.mem_singleton.2 rfl)
    have hl4 : (([] ++ beN (IntKind.u64.wrap x.Client) 1 ++ beN (IntKind.u64.wrap x.Seq) 4 ++ beN (IntKind.u64.wrap x.Kind) 1 ++ beN (IntKind.u64.wrap x.Lease) 8 : List UInt8)).length ≤ 100 := by simp [beN_len]
    have hput : putQ x = ([] ++ beN (IntKind.u64.wrap x.Client) 1 ++ beN (IntKind.u64.wrap x.Seq) 4 ++ beN (IntKind.u64.wrap x.Kind) 1 ++ beN (IntKind.u64.wrap x.Lease) 8 : List UInt8) ++ (textB (fieldsB x.P) ++ textB (fieldsB x.T)) := by simp [putQ, nb]
    generalize ([] ++ beN (IntKind.u64.wrap x.Client) 1 ++ beN (IntKind.u64.wrap x.Seq) 4 ++ beN (IntKind.u64.wrap x.Kind) 1 ++ beN (IntKind.u64.wrap x.Lease) 8 : List UInt8) = l4 at p4 hl4 hput
    have fP := fieldsB_len x.P
    have fT := fieldsB_len x.T
    have oP := c_oFields x.P hx.P
    have oT := c_oFields x.T hx.T
    repeat' (first
    | simp (implicitDefEqProofs := false) only [push_cast, reduceIte, reduceCtorEq, Nat.reduceAdd, Nat.reduceSub, Nat.reduceEqDiff, Nat.reduceLT, Nat.reduceLeDiff, Nat.reduceBEq, Nat.reduceMul, Int.reduceLT, Int.reduceLE, Int.reduceEq, Int.reduceToNat, Int.reduceMul, Int.reduceNeg, Go.Proofs.Try.f85, hc, qE, g3, g4, eFs_ty, eFs_pl, eFs_wk, ap_lo, st_lo, st_ne, st_eq, len_st, st_st, sst, at_set, at_set0, at_set2, List.replicate_succ, List.drop_zero]
    | refine Sp2.f ?_ ?_
    | refine Spl.f ?_ ?_ <;> intro hb
    | refine rq_mk rfl (fun b hb => ?_))
    refine rl_gen (fun i env' H => i ≤ 2 ∧ PS h.length h (h.length + 1) (l4 ++ ([textB (fieldsB x.P), textB (fieldsB x.T)].take i).flatten) [(h.length, qE x)] H ∧ env' = (fun a : Nat → AV => [(0, a 0), (1, .ref h.length [0] 60), (2, .nils), (3, .int .i64 0), (4, .ref (h.length + 1) [0] 94), (6, a 6), (9, a 9), (30, .agg 169 [eFs x.P, eFs x.T]), (31, .int .i64 (i : Int)), (32, a 32)]) (lk env')) 2 ⟨Nat.zero_le _, by simpa using p4, rfl⟩ ?_
    clear p4 hc
    rintro i env H ⟨hi, p, henv⟩
    refine ⟨hi, ?_⟩
    rw [henv]
    generalize lk env = a
    clear henv env
    rcases (by omega : i = 0 ∨ i = 1 ∨ i = 2) with rfl | rfl | rfl
    · have z1 : FSpec prog 54 [.ref (h.length + 1) [0] 94, eBs (fieldsB x.P)] H _ := p.text (fieldsB x.P) (by simp; omega)
      have c00 : ((0 : Nat) : Int) = 0 := rfl
      have d0 : [eFs x.P, eFs x.T].getD 0 AV.junk = eFs x.P := rfl
      repeat' (first
    | simp (implicitDefEqProofs := false) only [push_cast, reduceIte, reduceCtorEq, Nat.reduceAdd, Nat.reduceSub, Nat.reduceEqDiff, Nat.reduceLT, Nat.reduceLeDiff, Nat.reduceBEq, Nat.reduceMul, Int.reduceLT, Int.reduceLE, Int.reduceEq, Int.reduceToNat, Int.reduceMul, Int.reduceNeg, Go.Proofs.Try.f85, c00, d0, eFs_ty, eFs_pl, eFs_wk, eBs_ty, eBs_pl, eBs_wk, ap_lo, st_lo, st_ne, st_eq, len_st, st_st, sst, at_set, at_set0, at_set2, List.replicate_succ, List.drop_zero]
    | refine Sp2.f ?_ ?_
    | refine Spl.f ?_ ?_ <;> intro hb
    | refine rq_mk rfl (fun b hb => ?_)
    | refine k_fn oP ?_)
      · omega
      refine k_spec z1 fun v1 K1 hp1 => ?_
      have y1 := hp1.2
      have w1 : IntKind.wrap .i64 (0 + 1) = ((1 : Nat) : Int) := by decide +kernel
      repeat' (first
    | simp (implicitDefEqProofs := false) only [push_cast, reduceIte, reduceCtorEq, Nat.reduceAdd, Nat.reduceSub, Nat.reduceEqDiff, Nat.reduceLT, Nat.reduceLeDiff, Nat.reduceBEq, Nat.reduceMul, Int.reduceLT, Int.reduceLE, Int.reduceEq, Int.reduceToNat, Int.reduceMul, Int.reduceNeg, Go.Proofs.Try.f85, w1, ap_lo, st_lo, st_ne, st_eq, len_st, st_st, sst, at_set, at_set0, at_set2, List.replicate_succ, List.drop_zero]
    | refine Sp2.f ?_ ?_
    | refine Spl.f ?_ ?_ <;> intro hb
    | refine rq_mk rfl (fun b hb => ?_))
      simpa using y1
    · have z1 : FSpec prog 54 [.ref (h.length + 1) [0] 94, eBs (fieldsB x.T)] H _ := p.text (fieldsB x.T) (by simp [textB, beN_len]; omega)
      have c01 : ((1 : Nat) : Int) = 1 := rfl
      have d1 : [eFs x.P, eFs x.T].getD 1 AV.junk = eFs x.T := rfl
      repeat' (first
    | simp (implicitDefEqProofs := false) only [push_cast, reduceIte, reduceCtorEq, Nat.reduceAdd, Nat.reduceSub, Nat.reduceEqDiff, Nat.reduceLT, Nat.reduceLeDiff, Nat.reduceBEq, Nat.reduceMul, Int.reduceLT, Int.reduceLE, Int.reduceEq, Int.reduceToNat, Int.reduceMul, Int.reduceNeg, Go.Proofs.Try.f85, c01, d1, eFs_ty, eFs_pl, eFs_wk, eBs_ty, eBs_pl, eBs_wk, ap_lo, st_lo, st_ne, st_eq, len_st, st_st, sst, at_set, at_set0, at_set2, List.replicate_succ, List.drop_zero]
    | refine Sp2.f ?_ ?_
    | refine Spl.f ?_ ?_ <;> intro hb
    | refine rq_mk rfl (fun b hb => ?_)
    | refine k_fn oT ?_)
      · omega
      refine k_spec z1 fun v1 K1 hp1 => ?_
      have y1 := hp1.2
      have w1 : IntKind.wrap .i64 (1 + 1) = ((2 : Nat) : Int) := by decide +kernel
      repeat' (first
    | simp (implicitDefEqProofs := false) only [push_cast, reduceIte, reduceCtorEq, Nat.reduceAdd, Nat.reduceSub, Nat.reduceEqDiff, Nat.reduceLT, Nat.reduceLeDiff, Nat.reduceBEq, Nat.reduceMul, Int.reduceLT, Int.reduceLE, Int.reduceEq, Int.reduceToNat, Int.reduceMul, Int.reduceNeg, Go.Proofs.Try.f85, w1, ap_lo, st_lo, st_ne, st_eq, len_st, st_st, sst, at_set, at_set0, at_set2, List.replicate_succ, List.drop_zero]
    | refine Sp2.f ?_ ?_
    | refine Spl.f ?_ ?_ <;> intro hb
    | refine rq_mk rfl (fun b hb => ?_))
      exact ⟨by simpa using y1, rfl⟩
    · have c02 : ((2 : Nat) : Int) = 2 := rfl
      have y1 : PS h.length h (h.length + 1) (putQ x) [(h.length, qE x)] H := by rw [hput]; simpa using p
      repeat' (first
    | simp (implicitDefEqProofs := false) only [push_cast, reduceIte, reduceCtorEq, Nat.reduceAdd, Nat.reduceSub, Nat.reduceEqDiff, Nat.reduceLT, Nat.reduceLeDiff, Nat.reduceBEq, Nat.reduceMul, Int.reduceLT, Int.reduceLE, Int.reduceEq, Int.reduceToNat, Int.reduceMul, Int.reduceNeg, Go.Proofs.Try.f85, c02, fk_tt, ap_lo, st_lo, st_ne, st_eq, len_st, st_st, sst, at_set, at_set0, at_set2, List.replicate_succ, List.drop_zero]
    | refine Sp2.f ?_ ?_
    | refine Spl.f ?_ ?_ <;> intro hb
    | refine rq_mk rfl (fun b hb => ?_)
    | refine k_det y1.bytes ?_)
      refine ⟨eBs_pl _, y1.tk, [eBs (putQ x), .int .i64 0], rfl, ?_, ?_⟩
      · simp only [rzL, dat_rz _ (eBs_dat _), rz, belowL, dat_below _ (eBs_dat _), below, Bool.and_self]
      · simp only [rzL, dat_rz _ (eBs_dat _), rz]
        exact ⟨_, rfl, .inl rfl⟩

end Go.Abs
