/- Oq: a part of the proofs about the tuple space and its bytes. -/
import Derived.Test.YtilfbkhbjkjicaaEb
set_option linter.all false
set_option maxRecDepth 100000
set_option maxHeartbeats 0
namespace Go.Abs
open Go
open Go.Proofs.Try (prog)
theorem c_oFields (l : List Fld) (hl : l.length ≤ 4294967296) : Fn prog 129 [eFs l] (eBs (qav l)) := by
  refine run_129 rfl fun h => ?_
  repeat' (first
    | simp (implicitDefEqProofs := false) only [push_cast, reduceIte, reduceCtorEq, Nat.reduceAdd, Nat.reduceSub, Nat.reduceEqDiff, Nat.reduceLT, Nat.reduceLeDiff, Nat.reduceBEq, Nat.reduceMul, Int.reduceLT, Int.reduceLE, Int.reduceEq, Int.reduceToNat, Int.reduceMul, Int.reduceNeg, Go.Proofs.Try.f129, yak, qal, zak, zbm, qbi, ybp, zad, yae, qad, zae, zab, qae, sst, qab, qaa, yaa, List.replicate_succ, List.drop_zero]
    | refine Sp2.f ?_ ?_
    | refine Spl.f ?_ ?_ <;> intro hb
    | refine qac rfl (fun b hb => ?_)
    | refine zat (c_tPut l hl) ?_)
  exact ⟨qbi _, by rw [ybm _ (zbw _)]; exact zap _ (zbw _), ybm _ (zbw _)⟩
def qde (x : Req) : List UInt8 := nb x.Client 1 ++ (nb x.Seq 4 ++ (nb x.Kind 1 ++ (nb x.Lease 8 ++ (qbh (qav x.P) ++ qbh (qav x.T)))))
def qE (x : Req) : Entry := ⟨60, [eQ x], .own⟩
theorem c_oPut (x : Req) (hx : x.Small) : Fn prog 85 [eQ x] (.tup [eBs (if zcp x = true then qde x else []), .int .i64 (if zcp x = true then 0 else 1)]) := by
  refine qbl (R := fun r => ∃ v, r = .tup [v, .int .i64 (if zcp x = true then 0 else 1)] ∧ RawOK (if zcp x = true then qde x else []) v) [30, 3] (zdo wfp fun h => ?_) ?_
  rotate_left
  · rintro r ⟨v, rfl, hv⟩
    refine ⟨_, rfl, ⟨hv.ty.1, by rw [ycv, sh_3]; rfl, trivial⟩, ?_⟩
    simp only [wks, hv.ty.2.2, zbp]
  refine frun_85 rfl ?_
  have hmay := ydq x hx
  cases hm : zcp x with
  | false =>
    rw [hm] at hmay
    repeat' (first
    | simp (implicitDefEqProofs := false) only [push_cast, reduceIte, reduceCtorEq, Nat.reduceAdd, Nat.reduceSub, Nat.reduceEqDiff, Nat.reduceLT, Nat.reduceLeDiff, Nat.reduceBEq, Nat.reduceMul, Int.reduceLT, Int.reduceLE, Int.reduceEq, Int.reduceToNat, Int.reduceMul, Int.reduceNeg, Go.Proofs.Try.f85, fk_tt, zay, zaz, yaz, zad, yae, qad, zae, zab, qae, sst, qab, qaa, yaa, List.replicate_succ, List.drop_zero]
    | refine Sp2.f ?_ ?_
    | refine Spl.f ?_ ?_ <;> intro hb
    | refine qac rfl (fun b hb => ?_)
    | refine zat hmay ?_)
    exact ⟨_, rfl, rfl, .nils, rfl, .inr ⟨rfl, rfl⟩⟩
  | true =>
    rw [hm] at hmay
    have g0 : za7 (eQ x) [0] = some (.int .i64 x.Client) := rfl
    have g1 : za7 (eQ x) [1] = some (.int .i64 x.Seq) := rfl
    have g2 : za7 (eQ x) [2] = some (.int .i64 x.Kind) := rfl
    have g3 : za7 (eQ x) [3] = some (eFs x.P) := rfl
    have g4 : za7 (eQ x) [4] = some (eFs x.T) := rfl
    have g5 : za7 (eQ x) [5] = some (.int .i64 x.Lease) := rfl
    have p0 : PS h.length h (h.length + 1) [] [(h.length, qE x)] (h ++ [qE x, wrE .nils]) := by
      refine ⟨by simp, by simp, fun j => j = h.length + 1, fun j hj => by omega, ⟨fun j hj => by subst hj; simp, rfl, ⟨.nils, za8 .., .nil⟩, Nat.zero_le _⟩, fun c hc => ?_⟩
      rw [List.mem_singleton.1 hc]
      exact ⟨yas .., by simp⟩
    have q0 : FSpec prog 53 [.ref (h.length + 1) [0] 94, .int .u64 (IntKind.u64.wrap x.Client), .int .i64 1] (h ++ [qE x, wrE .nils]) _ := p0.num (IntKind.u64.wrap x.Client) 1 (by omega) (by omega) (by simp)
    repeat' (first
    | simp (implicitDefEqProofs := false) only [push_cast, reduceIte, reduceCtorEq, Nat.reduceAdd, Nat.reduceSub, Nat.reduceEqDiff, Nat.reduceLT, Nat.reduceLeDiff, Nat.reduceBEq, Nat.reduceMul, Int.reduceLT, Int.reduceLE, Int.reduceEq, Int.reduceToNat, Int.reduceMul, Int.reduceNeg, Go.Proofs.Try.f85, g0, zay, zaz, yaz, zad, yae, qad, zae, zab, qae, sst, qab, qaa, yaa, List.replicate_succ, List.drop_zero]
    | refine Sp2.f ?_ ?_
    | refine Spl.f ?_ ?_ <;> intro hb
    | refine qac rfl (fun b hb => ?_)
    | refine zat hmay ?_)
    refine zax q0 fun v H hp => ?_
    have p1 := hp.2
    clear q0 p0
    have hc := p1.got (List.mem_singleton.2 rfl)
    have q1 : FSpec prog 53 [.ref (h.length + 1) [0] 94, .int .u64 (IntKind.u64.wrap x.Seq), .int .i64 4] H _ := p1.num (IntKind.u64.wrap x.Seq) 4 (by omega) (by omega) (by simp [za3])
    repeat' (first
    | simp (implicitDefEqProofs := false) only [push_cast, reduceIte, reduceCtorEq, Nat.reduceAdd, Nat.reduceSub, Nat.reduceEqDiff, Nat.reduceLT, Nat.reduceLeDiff, Nat.reduceBEq, Nat.reduceMul, Int.reduceLT, Int.reduceLE, Int.reduceEq, Int.reduceToNat, Int.reduceMul, Int.reduceNeg, Go.Proofs.Try.f85, hc, qE, g1, zad, yae, qad, zae, zab, qae, sst, qab, qaa, yaa, List.replicate_succ, List.drop_zero]
    | refine Sp2.f ?_ ?_
    | refine Spl.f ?_ ?_ <;> intro hb
    | refine qac rfl (fun b hb => ?_))
    refine zax q1 fun v H2 hp => ?_
    have p2 := hp.2
    clear q1 p1 hc
    have hc := p2.got (List.mem_singleton.2 rfl)
    have q2 : FSpec prog 53 [.ref (h.length + 1) [0] 94, .int .u64 (IntKind.u64.wrap x.Kind), .int .i64 1] H2 _ := p2.num (IntKind.u64.wrap x.Kind) 1 (by omega) (by omega) (by simp [za3])
    repeat' (first
    | simp (implicitDefEqProofs := false) only [push_cast, reduceIte, reduceCtorEq, Nat.reduceAdd, Nat.reduceSub, Nat.reduceEqDiff, Nat.reduceLT, Nat.reduceLeDiff, Nat.reduceBEq, Nat.reduceMul, Int.reduceLT, Int.reduceLE, Int.reduceEq, Int.reduceToNat, Int.reduceMul, Int.reduceNeg, Go.Proofs.Try.f85, hc, qE, g2, zad, yae, qad, zae, zab, qae, sst, qab, qaa, yaa, List.replicate_succ, List.drop_zero]
    | refine Sp2.f ?_ ?_
    | refine Spl.f ?_ ?_ <;> intro hb
    | refine qac rfl (fun b hb => ?_))
    refine zax q2 fun v H3 hp => ?_
    have p3 := hp.2
    clear q2 p2 hc
    have hc := p3.got (List.mem_singleton.2 rfl)
    have q3 : FSpec prog 53 [.ref (h.length + 1) [0] 94, .int .u64 (IntKind.u64.wrap x.Lease), .int .i64 8] H3 _ := p3.num (IntKind.u64.wrap x.Lease) 8 (by omega) (by omega) (by simp [za3])
    repeat' (first
    | simp (implicitDefEqProofs := false) only [push_cast, reduceIte, reduceCtorEq, Nat.reduceAdd, Nat.reduceSub, Nat.reduceEqDiff, Nat.reduceLT, Nat.reduceLeDiff, Nat.reduceBEq, Nat.reduceMul, Int.reduceLT, Int.reduceLE, Int.reduceEq, Int.reduceToNat, Int.reduceMul, Int.reduceNeg, Go.Proofs.Try.f85, hc, qE, g5, zad, yae, qad, zae, zab, qae, sst, qab, qaa, yaa, List.replicate_succ, List.drop_zero]
    | refine Sp2.f ?_ ?_
    | refine Spl.f ?_ ?_ <;> intro hb
    | refine qac rfl (fun b hb => ?_))
    refine zax q3 fun v H4 hp => ?_
    have p4 := hp.2
    clear q3 p3 hc
    have hc := p4.got (List.mem_singleton.2 rfl)
    have hl4 : (([] ++ beN (IntKind.u64.wrap x.Client) 1 ++ beN (IntKind.u64.wrap x.Seq) 4 ++ beN (IntKind.u64.wrap x.Kind) 1 ++ beN (IntKind.u64.wrap x.Lease) 8 : List UInt8)).length ≤ 100 := by simp [za3]
    have hput : qde x = ([] ++ beN (IntKind.u64.wrap x.Client) 1 ++ beN (IntKind.u64.wrap x.Seq) 4 ++ beN (IntKind.u64.wrap x.Kind) 1 ++ beN (IntKind.u64.wrap x.Lease) 8 : List UInt8) ++ (qbh (qav x.P) ++ qbh (qav x.T)) := by simp [qde, nb]
    generalize ([] ++ beN (IntKind.u64.wrap x.Client) 1 ++ beN (IntKind.u64.wrap x.Seq) 4 ++ beN (IntKind.u64.wrap x.Kind) 1 ++ beN (IntKind.u64.wrap x.Lease) 8 : List UInt8) = l4 at p4 hl4 hput
    have fP := zbt x.P
    have fT := zbt x.T
    have oP := c_oFields x.P hx.P
    have oT := c_oFields x.T hx.T
    repeat' (first
    | simp (implicitDefEqProofs := false) only [push_cast, reduceIte, reduceCtorEq, Nat.reduceAdd, Nat.reduceSub, Nat.reduceEqDiff, Nat.reduceLT, Nat.reduceLeDiff, Nat.reduceBEq, Nat.reduceMul, Int.reduceLT, Int.reduceLE, Int.reduceEq, Int.reduceToNat, Int.reduceMul, Int.reduceNeg, Go.Proofs.Try.f85, hc, qE, g3, g4, yak, qal, zak, zad, yae, qad, zae, zab, qae, sst, qab, qaa, yaa, List.replicate_succ, List.drop_zero]
    | refine Sp2.f ?_ ?_
    | refine Spl.f ?_ ?_ <;> intro hb
    | refine qac rfl (fun b hb => ?_))
    refine zbl (fun i env' H => i ≤ 2 ∧ PS h.length h (h.length + 1) (l4 ++ ([qbh (qav x.P), qbh (qav x.T)].take i).flatten) [(h.length, qE x)] H ∧ env' = (fun a : Nat → AV => [(0, a 0), (1, .ref h.length [0] 60), (2, .nils), (3, .int .i64 0), (4, .ref (h.length + 1) [0] 94), (6, a 6), (9, a 9), (30, .agg 169 [eFs x.P, eFs x.T]), (31, .int .i64 (i : Int)), (32, a 32)]) (lk env')) 2 ⟨Nat.zero_le _, by simpa using p4, rfl⟩ ?_
    clear p4 hc
    rintro i env H ⟨hi, p, henv⟩
    refine ⟨hi, ?_⟩
    rw [henv]
    generalize lk env = a
    clear henv env
    rcases (by omega : i = 0 ∨ i = 1 ∨ i = 2) with rfl | rfl | rfl
    · have z1 : FSpec prog 54 [.ref (h.length + 1) [0] 94, eBs (qav x.P)] H _ := p.text (qav x.P) (by simp; omega)
      have c00 : ((0 : Nat) : Int) = 0 := rfl
      have d0 : [eFs x.P, eFs x.T].getD 0 AV.junk = eFs x.P := rfl
      repeat' (first
    | simp (implicitDefEqProofs := false) only [push_cast, reduceIte, reduceCtorEq, Nat.reduceAdd, Nat.reduceSub, Nat.reduceEqDiff, Nat.reduceLT, Nat.reduceLeDiff, Nat.reduceBEq, Nat.reduceMul, Int.reduceLT, Int.reduceLE, Int.reduceEq, Int.reduceToNat, Int.reduceMul, Int.reduceNeg, Go.Proofs.Try.f85, c00, d0, yak, qal, zak, zbm, qbi, ybp, zad, yae, qad, zae, zab, qae, sst, qab, qaa, yaa, List.replicate_succ, List.drop_zero]
    | refine Sp2.f ?_ ?_
    | refine Spl.f ?_ ?_ <;> intro hb
    | refine qac rfl (fun b hb => ?_)
    | refine zat oP ?_)
      · omega
      refine zax z1 fun v1 K1 hp1 => ?_
      have y1 := hp1.2
      have w1 : IntKind.wrap .i64 (0 + 1) = ((1 : Nat) : Int) := by decide +kernel
      repeat' (first
    | simp (implicitDefEqProofs := false) only [push_cast, reduceIte, reduceCtorEq, Nat.reduceAdd, Nat.reduceSub, Nat.reduceEqDiff, Nat.reduceLT, Nat.reduceLeDiff, Nat.reduceBEq, Nat.reduceMul, Int.reduceLT, Int.reduceLE, Int.reduceEq, Int.reduceToNat, Int.reduceMul, Int.reduceNeg, Go.Proofs.Try.f85, w1, zad, yae, qad, zae, zab, qae, sst, qab, qaa, yaa, List.replicate_succ, List.drop_zero]
    | refine Sp2.f ?_ ?_
    | refine Spl.f ?_ ?_ <;> intro hb
    | refine qac rfl (fun b hb => ?_))
      simpa using y1
    · have z1 : FSpec prog 54 [.ref (h.length + 1) [0] 94, eBs (qav x.T)] H _ := p.text (qav x.T) (by simp [qbh, za3]; omega)
      have c01 : ((1 : Nat) : Int) = 1 := rfl
      have d1 : [eFs x.P, eFs x.T].getD 1 AV.junk = eFs x.T := rfl
      repeat' (first
    | simp (implicitDefEqProofs := false) only [push_cast, reduceIte, reduceCtorEq, Nat.reduceAdd, Nat.reduceSub, Nat.reduceEqDiff, Nat.reduceLT, Nat.reduceLeDiff, Nat.reduceBEq, Nat.reduceMul, Int.reduceLT, Int.reduceLE, Int.reduceEq, Int.reduceToNat, Int.reduceMul, Int.reduceNeg, Go.Proofs.Try.f85, c01, d1, yak, qal, zak, zbm, qbi, ybp, zad, yae, qad, zae, zab, qae, sst, qab, qaa, yaa, List.replicate_succ, List.drop_zero]
    | refine Sp2.f ?_ ?_
    | refine Spl.f ?_ ?_ <;> intro hb
    | refine qac rfl (fun b hb => ?_)
    | refine zat oT ?_)
      · omega
      refine zax z1 fun v1 K1 hp1 => ?_
      have y1 := hp1.2
      have w1 : IntKind.wrap .i64 (1 + 1) = ((2 : Nat) : Int) := by decide +kernel
      repeat' (first
    | simp (implicitDefEqProofs := false) only [push_cast, reduceIte, reduceCtorEq, Nat.reduceAdd, Nat.reduceSub, Nat.reduceEqDiff, Nat.reduceLT, Nat.reduceLeDiff, Nat.reduceBEq, Nat.reduceMul, Int.reduceLT, Int.reduceLE, Int.reduceEq, Int.reduceToNat, Int.reduceMul, Int.reduceNeg, Go.Proofs.Try.f85, w1, zad, yae, qad, zae, zab, qae, sst, qab, qaa, yaa, List.replicate_succ, List.drop_zero]
    | refine Sp2.f ?_ ?_
    | refine Spl.f ?_ ?_ <;> intro hb
    | refine qac rfl (fun b hb => ?_))
      exact ⟨by simpa using y1, rfl⟩
    · have c02 : ((2 : Nat) : Int) = 2 := rfl
      have y1 : PS h.length h (h.length + 1) (qde x) [(h.length, qE x)] H := by rw [hput]; simpa using p
      repeat' (first
    | simp (implicitDefEqProofs := false) only [push_cast, reduceIte, reduceCtorEq, Nat.reduceAdd, Nat.reduceSub, Nat.reduceEqDiff, Nat.reduceLT, Nat.reduceLeDiff, Nat.reduceBEq, Nat.reduceMul, Int.reduceLT, Int.reduceLE, Int.reduceEq, Int.reduceToNat, Int.reduceMul, Int.reduceNeg, Go.Proofs.Try.f85, c02, fk_tt, zad, yae, qad, zae, zab, qae, sst, qab, qaa, yaa, List.replicate_succ, List.drop_zero]
    | refine Sp2.f ?_ ?_
    | refine Spl.f ?_ ?_ <;> intro hb
    | refine qac rfl (fun b hb => ?_)
    | refine qa1 y1.bytes ?_)
      refine ⟨qbi _, y1.tk, [eBs (qde x), .int .i64 0], rfl, ?_, ?_⟩
      · simp only [rzL, ybm _ (zbw _), rz, zaq, zap _ (zbw _), qam, Bool.and_self]
      · simp only [rzL, ybm _ (zbw _), rz]
        exact ⟨_, rfl, .inl rfl⟩
end Go.Abs
