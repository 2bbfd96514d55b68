/- Og: a part of the proofs about the tuple space and its bytes. -/
import Derived.Test.YtilfbkhbjkjicaaEb
import Derived.Test.YtilfbkhbjkjicaaRo
import Derived.Test.YtilfbkhbjkjicaaGd
set_option linter.all false
set_option maxRecDepth 100000
set_option maxHeartbeats 0
namespace Go.Abs
open Go
open Go.Proofs.Try (prog)
theorem c_oFields (l : List Fld) (hl : l.length ≤ 4294967296) : Fn prog 129 [eFs l] (eBs (zas l)) := by
  refine run_129 rfl fun h => ?_
  repeat' (first
    | simp (implicitDefEqProofs := false) only [push_cast, reduceIte, reduceCtorEq, Nat.reduceAdd, Nat.reduceSub, Nat.reduceEqDiff, Nat.reduceLT, Nat.reduceLeDiff, Nat.reduceBEq, Nat.reduceMul, Int.reduceLT, Int.reduceLE, Int.reduceEq, Int.reduceToNat, Int.reduceMul, Int.reduceNeg, Go.Proofs.Try.f129, yb3, zce, zb3, qa5, ya4, za7, zad, zae, qac, yad, yab, qad, sst, zac, qaa, yaa, List.replicate_succ, List.drop_zero]
    | refine Sp2.f ?_ ?_
    | refine Spl.f ?_ ?_ <;> intro hb
    | refine yac rfl (fun b hb => ?_)
    | refine qaz (c_tPut l hl) ?_)
  exact ⟨ya4 _, by rw [qa9 _ (ybd _)]; exact qak _ (ybd _), qa9 _ (ybd _)⟩
def yc7 (x : Req) : List UInt8 := nb x.Client 1 ++ (nb x.Seq 4 ++ (nb x.Kind 1 ++ (nb x.Lease 8 ++ (zbb (zas x.P) ++ zbb (zas x.T)))))
def qE (x : Req) : Entry := ⟨60, [eQ x], .own⟩
theorem c_oPut (x : Req) (hx : x.Small) : Fn prog 85 [eQ x] (.tup [eBs (if qcp x = true then yc7 x else []), .int .i64 (if qcp x = true then 0 else 1)]) := by
  refine ybg (R := fun r => ∃ v, r = .tup [v, .int .i64 (if qcp x = true then 0 else 1)] ∧ RawOK (if qcp x = true then yc7 x else []) v) [30, 3] (fn_tup wfp fun h => ?_) ?_
  rotate_left
  · rintro r ⟨v, rfl, hv⟩
    refine ⟨_, rfl, ⟨hv.ty.1, by rw [ycr, sh_3]; rfl, trivial⟩, ?_⟩
    simp only [wks, hv.ty.2.2, ybq]
  refine frun_85 rfl ?_
  have hmay := zdn x hx
  cases hm : qcp x with
  | false =>
    rw [hm] at hmay
    repeat' (first
    | simp (implicitDefEqProofs := false) only [push_cast, reduceIte, reduceCtorEq, Nat.reduceAdd, Nat.reduceSub, Nat.reduceEqDiff, Nat.reduceLT, Nat.reduceLeDiff, Nat.reduceBEq, Nat.reduceMul, Int.reduceLT, Int.reduceLE, Int.reduceEq, Int.reduceToNat, Int.reduceMul, Int.reduceNeg, Go.Proofs.Try.f85, fk_tt, qdl, zdu, qdt, zad, zae, qac, yad, yab, qad, sst, zac, qaa, yaa, List.replicate_succ, List.drop_zero]
    | refine Sp2.f ?_ ?_
    | refine Spl.f ?_ ?_ <;> intro hb
    | refine yac rfl (fun b hb => ?_)
    | refine qaz hmay ?_)
    exact ⟨_, rfl, rfl, .nils, rfl, .inr ⟨rfl, rfl⟩⟩
  | true =>
    rw [hm] at hmay
    have g0 : zb1 (eQ x) [0] = some (.int .i64 x.Client) := rfl
    have g1 : zb1 (eQ x) [1] = some (.int .i64 x.Seq) := rfl
    have g2 : zb1 (eQ x) [2] = some (.int .i64 x.Kind) := rfl
    have g3 : zb1 (eQ x) [3] = some (eFs x.P) := rfl
    have g4 : zb1 (eQ x) [4] = some (eFs x.T) := rfl
    have g5 : zb1 (eQ x) [5] = some (.int .i64 x.Lease) := rfl
    have p0 : PS h.length h (h.length + 1) [] [(h.length, qE x)] (h ++ [qE x, wrE .nils]) := by
      refine ⟨by simp, by simp, fun j => j = h.length + 1, fun j hj => by omega, ⟨fun j hj => by subst hj; simp, rfl, ⟨.nils, za0 .., .nil⟩, Nat.zero_le _⟩, fun c hc => ?_⟩
      rw [List.mem_singleton.1 hc]
      exact ⟨zao .., by simp⟩
    have q0 : FSpec prog 53 [.ref (h.length + 1) [0] 94, .int .u64 (IntKind.u64.wrap x.Client), .int .i64 1] (h ++ [qE x, wrE .nils]) _ := p0.num (IntKind.u64.wrap x.Client) 1 (by omega) (by omega) (by simp)
    repeat' (first
    | simp (implicitDefEqProofs := false) only [push_cast, reduceIte, reduceCtorEq, Nat.reduceAdd, Nat.reduceSub, Nat.reduceEqDiff, Nat.reduceLT, Nat.reduceLeDiff, Nat.reduceBEq, Nat.reduceMul, Int.reduceLT, Int.reduceLE, Int.reduceEq, Int.reduceToNat, Int.reduceMul, Int.reduceNeg, Go.Proofs.Try.f85, g0, qdl, zdu, qdt, zad, zae, qac, yad, yab, qad, sst, zac, qaa, yaa, List.replicate_succ, List.drop_zero]
    | refine Sp2.f ?_ ?_
    | refine Spl.f ?_ ?_ <;> intro hb
    | refine yac rfl (fun b hb => ?_)
    | refine qaz hmay ?_)
    refine yav q0 fun v H hp => ?_
    have p1 := hp.2
    clear q0 p0
    have hc := p1.got (List.mem_singleton.2 rfl)
    have q1 : FSpec prog 53 [.ref (h.length + 1) [0] 94, .int .u64 (IntKind.u64.wrap x.Seq), .int .i64 4] H _ := p1.num (IntKind.u64.wrap x.Seq) 4 (by omega) (by omega) (by simp [qax])
    repeat' (first
    | simp (implicitDefEqProofs := false) only [push_cast, reduceIte, reduceCtorEq, Nat.reduceAdd, Nat.reduceSub, Nat.reduceEqDiff, Nat.reduceLT, Nat.reduceLeDiff, Nat.reduceBEq, Nat.reduceMul, Int.reduceLT, Int.reduceLE, Int.reduceEq, Int.reduceToNat, Int.reduceMul, Int.reduceNeg, Go.Proofs.Try.f85, hc, qE, g1, zad, zae, qac, yad, yab, qad, sst, zac, qaa, yaa, List.replicate_succ, List.drop_zero]
    | refine Sp2.f ?_ ?_
    | refine Spl.f ?_ ?_ <;> intro hb
    | refine yac rfl (fun b hb => ?_))
    refine yav q1 fun v H2 hp => ?_
    have p2 := hp.2
    clear q1 p1 hc
    have hc := p2.got (List.mem_singleton.2 rfl)
    have q2 : FSpec prog 53 [.ref (h.length + 1) [0] 94, .int .u64 (IntKind.u64.wrap x.Kind), .int .i64 1] H2 _ := p2.num (IntKind.u64.wrap x.Kind) 1 (by omega) (by omega) (by simp [qax])
    repeat' (first
    | simp (implicitDefEqProofs := false) only [push_cast, reduceIte, reduceCtorEq, Nat.reduceAdd, Nat.reduceSub, Nat.reduceEqDiff, Nat.reduceLT, Nat.reduceLeDiff, Nat.reduceBEq, Nat.reduceMul, Int.reduceLT, Int.reduceLE, Int.reduceEq, Int.reduceToNat, Int.reduceMul, Int.reduceNeg, Go.Proofs.Try.f85, hc, qE, g2, zad, zae, qac, yad, yab, qad, sst, zac, qaa, yaa, List.replicate_succ, List.drop_zero]
    | refine Sp2.f ?_ ?_
    | refine Spl.f ?_ ?_ <;> intro hb
    | refine yac rfl (fun b hb => ?_))
    refine yav q2 fun v H3 hp => ?_
    have p3 := hp.2
    clear q2 p2 hc
    have hc := p3.got (List.mem_singleton.2 rfl)
    have q3 : FSpec prog 53 [.ref (h.length + 1) [0] 94, .int .u64 (IntKind.u64.wrap x.Lease), .int .i64 8] H3 _ := p3.num (IntKind.u64.wrap x.Lease) 8 (by omega) (by omega) (by simp [qax])
    repeat' (first
    | simp (implicitDefEqProofs := false) only [push_cast, reduceIte, reduceCtorEq, Nat.reduceAdd, Nat.reduceSub, Nat.reduceEqDiff, Nat.reduceLT, Nat.reduceLeDiff, Nat.reduceBEq, Nat.reduceMul, Int.reduceLT, Int.reduceLE, Int.reduceEq, Int.reduceToNat, Int.reduceMul, Int.reduceNeg, Go.Proofs.Try.f85, hc, qE, g5, zad, zae, qac, yad, yab, qad, sst, zac, qaa, yaa, List.replicate_succ, List.drop_zero]
    | refine Sp2.f ?_ ?_
    | refine Spl.f ?_ ?_ <;> intro hb
    | refine yac rfl (fun b hb => ?_))
    refine yav q3 fun v H4 hp => ?_
    have p4 := hp.2
    clear q3 p3 hc
    have hc := p4.got (List.mem_singleton.2 rfl)
    have hl4 : (([] ++ beN (IntKind.u64.wrap x.Client) 1 ++ beN (IntKind.u64.wrap x.Seq) 4 ++ beN (IntKind.u64.wrap x.Kind) 1 ++ beN (IntKind.u64.wrap x.Lease) 8 : List UInt8)).length ≤ 100 := by simp [qax]
    have hput : yc7 x = ([] ++ beN (IntKind.u64.wrap x.Client) 1 ++ beN (IntKind.u64.wrap x.Seq) 4 ++ beN (IntKind.u64.wrap x.Kind) 1 ++ beN (IntKind.u64.wrap x.Lease) 8 : List UInt8) ++ (zbb (zas x.P) ++ zbb (zas x.T)) := by simp [yc7, nb]
    generalize ([] ++ beN (IntKind.u64.wrap x.Client) 1 ++ beN (IntKind.u64.wrap x.Seq) 4 ++ beN (IntKind.u64.wrap x.Kind) 1 ++ beN (IntKind.u64.wrap x.Lease) 8 : List UInt8) = l4 at p4 hl4 hput
    have fP := ybo x.P
    have fT := ybo x.T
    have oP := c_oFields x.P hx.P
    have oT := c_oFields x.T hx.T
    repeat' (first
    | simp (implicitDefEqProofs := false) only [push_cast, reduceIte, reduceCtorEq, Nat.reduceAdd, Nat.reduceSub, Nat.reduceEqDiff, Nat.reduceLT, Nat.reduceLeDiff, Nat.reduceBEq, Nat.reduceMul, Int.reduceLT, Int.reduceLE, Int.reduceEq, Int.reduceToNat, Int.reduceMul, Int.reduceNeg, Go.Proofs.Try.f85, hc, qE, g3, g4, yb3, zce, zb3, zad, zae, qac, yad, yab, qad, sst, zac, qaa, yaa, List.replicate_succ, List.drop_zero]
    | refine Sp2.f ?_ ?_
    | refine Spl.f ?_ ?_ <;> intro hb
    | refine yac rfl (fun b hb => ?_))
    refine qa6 (fun i env' H => i ≤ 2 ∧ PS h.length h (h.length + 1) (l4 ++ ([zbb (zas x.P), zbb (zas x.T)].take i).flatten) [(h.length, qE x)] H ∧ env' = (fun a : Nat → AV => [(0, a 0), (1, .ref h.length [0] 60), (2, .nils), (3, .int .i64 0), (4, .ref (h.length + 1) [0] 94), (6, a 6), (9, a 9), (30, .agg 169 [eFs x.P, eFs x.T]), (31, .int .i64 (i : Int)), (32, a 32)]) (lk env')) 2 ⟨Nat.zero_le _, by simpa using p4, rfl⟩ ?_
    clear p4 hc
    rintro i env H ⟨hi, p, henv⟩
    refine ⟨hi, ?_⟩
    rw [henv]
    generalize lk env = a
    clear henv env
    rcases (by omega : i = 0 ∨ i = 1 ∨ i = 2) with rfl | rfl | rfl
    · have z1 : FSpec prog 54 [.ref (h.length + 1) [0] 94, eBs (zas x.P)] H _ := p.text (zas x.P) (by simp; omega)
      have c00 : ((0 : Nat) : Int) = 0 := rfl
      have d0 : [eFs x.P, eFs x.T].getD 0 AV.junk = eFs x.P := rfl
      repeat' (first
    | simp (implicitDefEqProofs := false) only [push_cast, reduceIte, reduceCtorEq, Nat.reduceAdd, Nat.reduceSub, Nat.reduceEqDiff, Nat.reduceLT, Nat.reduceLeDiff, Nat.reduceBEq, Nat.reduceMul, Int.reduceLT, Int.reduceLE, Int.reduceEq, Int.reduceToNat, Int.reduceMul, Int.reduceNeg, Go.Proofs.Try.f85, c00, d0, yb3, zce, zb3, qa5, ya4, za7, zad, zae, qac, yad, yab, qad, sst, zac, qaa, yaa, List.replicate_succ, List.drop_zero]
    | refine Sp2.f ?_ ?_
    | refine Spl.f ?_ ?_ <;> intro hb
    | refine yac rfl (fun b hb => ?_)
    | refine qaz oP ?_)
      · omega
      refine yav z1 fun v1 K1 hp1 => ?_
      have y1 := hp1.2
      have w1 : IntKind.wrap .i64 (0 + 1) = ((1 : Nat) : Int) := by decide +kernel
      repeat' (first
    | simp (implicitDefEqProofs := false) only [push_cast, reduceIte, reduceCtorEq, Nat.reduceAdd, Nat.reduceSub, Nat.reduceEqDiff, Nat.reduceLT, Nat.reduceLeDiff, Nat.reduceBEq, Nat.reduceMul, Int.reduceLT, Int.reduceLE, Int.reduceEq, Int.reduceToNat, Int.reduceMul, Int.reduceNeg, Go.Proofs.Try.f85, w1, zad, zae, qac, yad, yab, qad, sst, zac, qaa, yaa, List.replicate_succ, List.drop_zero]
    | refine Sp2.f ?_ ?_
    | refine Spl.f ?_ ?_ <;> intro hb
    | refine yac rfl (fun b hb => ?_))
      simpa using y1
    · have z1 : FSpec prog 54 [.ref (h.length + 1) [0] 94, eBs (zas x.T)] H _ := p.text (zas x.T) (by simp [zbb, qax]; omega)
      have c01 : ((1 : Nat) : Int) = 1 := rfl
      have d1 : [eFs x.P, eFs x.T].getD 1 AV.junk = eFs x.T := rfl
      repeat' (first
    | simp (implicitDefEqProofs := false) only [push_cast, reduceIte, reduceCtorEq, Nat.reduceAdd, Nat.reduceSub, Nat.reduceEqDiff, Nat.reduceLT, Nat.reduceLeDiff, Nat.reduceBEq, Nat.reduceMul, Int.reduceLT, Int.reduceLE, Int.reduceEq, Int.reduceToNat, Int.reduceMul, Int.reduceNeg, Go.Proofs.Try.f85, c01, d1, yb3, zce, zb3, qa5, ya4, za7, zad, zae, qac, yad, yab, qad, sst, zac, qaa, yaa, List.replicate_succ, List.drop_zero]
    | refine Sp2.f ?_ ?_
    | refine Spl.f ?_ ?_ <;> intro hb
    | refine yac rfl (fun b hb => ?_)
    | refine qaz oT ?_)
      · omega
      refine yav z1 fun v1 K1 hp1 => ?_
      have y1 := hp1.2
      have w1 : IntKind.wrap .i64 (1 + 1) = ((2 : Nat) : Int) := by decide +kernel
      repeat' (first
    | simp (implicitDefEqProofs := false) only [push_cast, reduceIte, reduceCtorEq, Nat.reduceAdd, Nat.reduceSub, Nat.reduceEqDiff, Nat.reduceLT, Nat.reduceLeDiff, Nat.reduceBEq, Nat.reduceMul, Int.reduceLT, Int.reduceLE, Int.reduceEq, Int.reduceToNat, Int.reduceMul, Int.reduceNeg, Go.Proofs.Try.f85, w1, zad, zae, qac, yad, yab, qad, sst, zac, qaa, yaa, List.replicate_succ, List.drop_zero]
    | refine Sp2.f ?_ ?_
    | refine Spl.f ?_ ?_ <;> intro hb
    | refine yac rfl (fun b hb => ?_))
      exact ⟨by simpa using y1, rfl⟩
    · have c02 : ((2 : Nat) : Int) = 2 := rfl
      have y1 : PS h.length h (h.length + 1) (yc7 x) [(h.length, qE x)] H := by rw [hput]; simpa using p
      repeat' (first
    | simp (implicitDefEqProofs := false) only [push_cast, reduceIte, reduceCtorEq, Nat.reduceAdd, Nat.reduceSub, Nat.reduceEqDiff, Nat.reduceLT, Nat.reduceLeDiff, Nat.reduceBEq, Nat.reduceMul, Int.reduceLT, Int.reduceLE, Int.reduceEq, Int.reduceToNat, Int.reduceMul, Int.reduceNeg, Go.Proofs.Try.f85, c02, fk_tt, zad, zae, qac, yad, yab, qad, sst, zac, qaa, yaa, List.replicate_succ, List.drop_zero]
    | refine Sp2.f ?_ ?_
    | refine Spl.f ?_ ?_ <;> intro hb
    | refine yac rfl (fun b hb => ?_)
    | refine qar y1.bytes ?_)
      refine ⟨ya4 _, y1.tk, [eBs (yc7 x), .int .i64 0], rfl, ?_, ?_⟩
      · simp only [rzL, qa9 _ (ybd _), rz, yam, qak _ (ybd _), zal, Bool.and_self]
      · simp only [rzL, qa9 _ (ybd _), rz]
        exact ⟨_, rfl, .inl rfl⟩
end Go.Abs
set_option linter.all false
set_option maxRecDepth 100000
set_option maxHeartbeats 0
namespace Go.Abs
open Go
open Go.Proofs.Try (prog)
structure RD (n : Nat) (h0 : List Entry) (kd kb : Nat) (b : List UInt8) (s : RS) (cs : List (Nat × Entry)) (H : List Entry) : Prop where
  tk : H.take n = h0
  ln : n ≤ H.length
  r : Rdr H kd kb b s
  cs : ∀ c ∈ cs, H[c.1]? = some c.2 ∧ c.1 ≠ kd ∧ c.1 ≠ kb
  ld : n ≤ kd
theorem RD.got {n : Nat} {h0 : List Entry} {kd kb : Nat} {b : List UInt8} {s : RS} {cs : List (Nat × Entry)} {H : List Entry} (p : RD n h0 kd kb b s cs H) {c : Nat × Entry} (hc : c ∈ cs) : H[c.1]? = some c.2 := (p.cs c hc).1
theorem RD.hd {n : Nat} {h0 : List Entry} {kd kb : Nat} {b : List UInt8} {s : RS} {cs : List (Nat × Entry)} {k : Nat} {E : Entry} {H : List Entry} (p : RD n h0 kd kb b s ((k, E) :: cs) H) : H[k]? = some E := (p.cs (k, E) (List.mem_cons_self ..)).1
theorem RD.hd2 {n : Nat} {h0 : List Entry} {kd kb : Nat} {b : List UInt8} {s : RS} {cs : List (Nat × Entry)} {c : Nat × Entry} {k : Nat} {E : Entry} {H : List Entry} (p : RD n h0 kd kb b s (c :: (k, E) :: cs) H) : H[k]? = some E := (p.cs (k, E) (by simp)).1
theorem RD.turn {n : Nat} {h0 : List Entry} {kd kb : Nat} {b : List UInt8} {s s' : RS} {cs : List (Nat × Entry)} {H : List Entry} (p : RD n h0 kd kb b s cs H) (o : s'.Of b) : RD n h0 kd kb b s' cs (H.set kd (rdE kb b s')) := by
  refine ⟨by rw [List.take_set_of_le p.ld]; exact p.tk, by simpa using p.ln, p.r.at o, fun c hc => ?_, p.ld⟩
  obtain ⟨a, b, d⟩ := p.cs c hc
  exact ⟨by rw [List.getElem?_set_ne (Ne.symm b)]; exact a, b, d⟩
theorem RD.num {n : Nat} {h0 : List Entry} {kd kb : Nat} {b : List UInt8} {s : RS} {cs : List (Nat × Entry)} {H : List Entry} (p : RD n h0 kd kb b s cs H) (m : Nat) (h1 : 1 ≤ m) (h8 : m ≤ 8) :
    FSpec prog 67 [.ref kd [0] 162, .int .i64 m] H fun r' h'' => r' = .int .u64 (s.num m).1 ∧ RD n h0 kd kb b (s.num m).2 cs h'' :=
  (c_RNum p.r m h1 h8).mono fun r' h'' ⟨e, eh⟩ => ⟨e, by rw [eh]; exact p.turn (p.r.of.num m)⟩
theorem RD.text {n : Nat} {h0 : List Entry} {kd kb : Nat} {b : List UInt8} {s : RS} {cs : List (Nat × Entry)} {H : List Entry} (p : RD n h0 kd kb b s cs H) (m : Int) :
    FSpec prog 66 [.ref kd [0] 162, .int .i64 m] H fun r' h'' => r' = eBs (s.text m).1 ∧ RD n h0 kd kb b (s.text m).2 cs h'' := by
  refine FSpec.wk1 30 (c_RText p.r m) fun r' h' ⟨hv, hh⟩ => ⟨hv.ty.1, ?_, ?_⟩
  · exact hv.ty.2.2 5
  · rw [hh]; exact p.turn (p.r.of.text m)
theorem RD.fin {n : Nat} {h0 : List Entry} {kd kb : Nat} {b : List UInt8} {s : RS} {cs : List (Nat × Entry)} {H : List Entry} (p : RD n h0 kd kb b s cs H) :
    FSpec prog 68 [.ref kd [0] 162] H fun r' h'' => r' = .int .i64 (if s.fine = true then 0 else 2) ∧ RD n h0 kd kb b s cs h'' :=
  (c_REnd p.r).mono fun r' h'' ⟨e, eh⟩ => ⟨e, by rw [eh]; exact p.turn p.r.of⟩
theorem RD.app {n : Nat} {h0 : List Entry} {kd kb : Nat} {b : List UInt8} {s : RS} {cs : List (Nat × Entry)} {H : List Entry} (p : RD n h0 kd kb b s cs H) (l : List Entry) : RD n h0 kd kb b s cs (H ++ l) := by
  refine ⟨by rw [List.take_append_of_le_length p.ln]; exact p.tk, by have := p.ln; simp; omega, p.r.more l, fun c hc => ?_, p.ld⟩
  obtain ⟨a, b, d⟩ := p.cs c hc
  exact ⟨by rw [List.getElem?_append_left (qab a)]; exact a, b, d⟩
theorem RD.add {n : Nat} {h0 : List Entry} {kd kb : Nat} {b : List UInt8} {s : RS} {cs : List (Nat × Entry)} {H : List Entry} (p : RD n h0 kd kb b s cs H) (E : Entry) : RD n h0 kd kb b s ((H.length, E) :: cs) (H ++ [E]) := by
  have q := p.app [E]
  refine ⟨q.tk, q.ln, q.r, fun c hc => ?_, q.ld⟩
  rcases List.mem_cons.1 hc with rfl | hc
  · exact ⟨zao .., by have := qab p.r.d; omega, by have := qab p.r.b; omega⟩
  · exact q.cs c hc
theorem RD.less {n : Nat} {h0 : List Entry} {kd kb : Nat} {b : List UInt8} {s : RS} {cs cs' : List (Nat × Entry)} {H : List Entry} (p : RD n h0 kd kb b s cs H) (h : ∀ c ∈ cs', c ∈ cs) : RD n h0 kd kb b s cs' H :=
  ⟨p.tk, p.ln, p.r, fun c hc => p.cs c (h c hc), p.ld⟩
theorem RD.put {n : Nat} {h0 : List Entry} {kd kb : Nat} {b : List UInt8} {s : RS} {cs : List (Nat × Entry)} {k : Nat} {E0 : Entry} {H : List Entry} (p : RD n h0 kd kb b s ((k, E0) :: cs) H) (E : Entry) (hk : n ≤ k) (hd : ∀ c ∈ cs, c.1 ≠ k) : RD n h0 kd kb b s ((k, E) :: cs) (H.set k E) := by
  obtain ⟨a, a1, a2⟩ := p.cs (k, E0) (by simp)
  refine ⟨by rw [List.take_set_of_le hk]; exact p.tk, by simpa using p.ln, p.r.keep (fun e he => by rw [List.getElem?_set_ne a1]; exact he) (fun e he => by rw [List.getElem?_set_ne a2]; exact he), fun c hc => ?_, p.ld⟩
  rcases List.mem_cons.1 hc with rfl | hc
  · exact ⟨List.getElem?_set_self (qab a), a1, a2⟩
  · obtain ⟨g1, g2, g3⟩ := p.cs c (by simp [hc])
    exact ⟨by rw [List.getElem?_set_ne (Ne.symm (hd c hc))]; exact g1, g2, g3⟩
theorem RD.mk0 {h : List Entry} {E : Entry} {kd kb : Nat} {b : List UInt8} {s : RS} {l0 H : List Entry} (hH : H = h ++ [E] ++ l0) (hkd : (h ++ [E]).length ≤ kd) (hkb : (h ++ [E]).length ≤ kb) (r : Rdr H kd kb b s) : RD h.length h kd kb b s [(h.length, E)] H := by
  subst hH
  simp only [List.length_append, List.length_cons, List.length_nil, Nat.zero_add] at hkd hkb
  refine ⟨by rw [List.append_assoc]; simp, by simp, r, fun c hc => ?_, by omega⟩
  rw [List.mem_singleton.1 hc]
  exact ⟨by rw [List.append_assoc]; exact zao .., by show h.length ≠ kd; omega, by show h.length ≠ kb; omega⟩
def ydh (s : RS) : Req × RS :=
  let a := s.num 1
  let b := a.2.num 4
  let c := b.2.num 1
  let d := c.2.num 8
  let P := rowR d.2
  let T := rowR P.2
  (⟨IntKind.i64.wrap a.1, IntKind.i64.wrap b.1, IntKind.i64.wrap c.1, P.1, T.1, IntKind.i64.wrap d.1⟩, T.2)
def getQ (b : List UInt8) : Option Req :=
  if (ydh ⟨b, false⟩).2.fine = true ∧ qcp (ydh ⟨b, false⟩).1 = true ∧ yc7 (ydh ⟨b, false⟩).1 = b then some (ydh ⟨b, false⟩).1 else none
def zQ : Req := ⟨0, 0, 0, [], [], 0⟩
theorem rz_int8 (h : List Entry) (n : Nat) (k : IntKind) (x : Int) : rz h n (.int k x) = .int k x := by simp only [rz]
theorem oget_bad (h H : List Entry) (hT : H.take h.length = h) (E : Entry) : (H.set h.length E).take h.length = h ∧ ∃ l, AV.tup [.agg 60 [.int .i64 0, .int .i64 0, .int .i64 0, .nils, .nils, .int .i64 0], .int .i64 2] = .tup l ∧ yam h.length (rzL (H.set h.length E) h.length l) = true ∧
    ∃ l', AV.tup (rzL (H.set h.length E) h.length l) = .tup l' ∧ zcf prog [60, 3] l' ∧ wks prog [60, 3] l' = [eQ zQ, .int .i64 2] := by
  refine ⟨by rw [List.take_set_of_le (Nat.le_refl _)]; exact hT, _, rfl, rfl, _, rfl, ⟨by simp only [rz]; rw [ty_agg]; rfl, by simp only [rz]; rw [ycr, sh_3]; rfl, trivial⟩, ?_⟩
  simp only [rzL, rz, wks, ybu, qaw, ybq, qbe, qan, sh_60, fl_60, sh_24, List.zipWith_cons_cons, List.zipWith_nil_left, if_true]
  rfl
theorem oget_good {h H : List Entry} (hT : H.take h.length = h) (x : Req) (E : Entry) :
    (H.set h.length E).take h.length = h ∧ ∃ l, AV.tup [eQ x, .int .i64 0] = .tup l ∧ yam h.length (rzL (H.set h.length E) h.length l) = true ∧
    ∃ l', AV.tup (rzL (H.set h.length E) h.length l) = .tup l' ∧ zcf prog [60, 3] l' ∧ wks prog [60, 3] l' = [eQ x, .int .i64 0] := by
  refine ⟨by rw [List.take_set_of_le (Nat.le_refl _)]; exact hT, _, rfl, ?_, _, rfl, ?_, ?_⟩
  · simp only [rzL, qa9 _ (eQ_dat x), rz_int8, yam, zal, qak _ (eQ_dat x), Bool.and_self]
  · simp only [rzL, qa9 _ (eQ_dat x), rz_int8]
    exact ⟨qdl x, by rw [ycr, sh_3]; rfl, trivial⟩
  · simp only [rzL, qa9 _ (eQ_dat x), rz_int8, wks, qdt, ybq]
theorem wk_eFs8 (n : Nat) (T : TypeId) (l : List Fld) : wk prog n T (eFs l) = eFs l := zbl ..
theorem text_le8 (s : RS) (m : Int) : (s.text m).1.length ≤ (max m 0).toNat := by
  rw [RS.text]
  generalize (s.num 4).2 = t
  split
  · unfold RS.raw; rw [if_neg (by omega)]; simp
  · unfold RS.raw
    split
    · simp only [List.length_take]; omega
    · simp
theorem getO {b : List UInt8} {p : Req} {s6 : RS} (hp : ydh ⟨b, false⟩ = (p, s6)) : getQ b = (if s6.fine = true ∧ qcp p = true ∧ yc7 p = b then some p else none) := by rw [getQ, hp]
theorem c_oGet (b : List UInt8) (hb : b.length ≤ 900000) : Fn prog 87 [eBs b] (.tup [eQ ((getQ b).getD zQ), .int .i64 (if (getQ b).isSome = true then 0 else 2)]) := by
  refine ybg (R := fun r => ∃ l, r = .tup l ∧ zcf prog [60, 3] l ∧ wks prog [60, 3] l = [eQ ((getQ b).getD zQ), .int .i64 (if (getQ b).isSome = true then 0 else 2)]) [60, 3] (fn_tup wfp fun h => ?_) fun r h => h
  refine frun_87 rfl ?_
  repeat' (first
    | simp (implicitDefEqProofs := false) only [push_cast, reduceIte, reduceCtorEq, Nat.reduceAdd, Nat.reduceSub, Nat.reduceEqDiff, Nat.reduceLT, Nat.reduceLeDiff, Nat.reduceBEq, Nat.reduceMul, Int.reduceLT, Int.reduceLE, Int.reduceEq, Int.reduceToNat, Int.reduceMul, Int.reduceNeg, Go.Proofs.Try.f87, qa5, ya4, za7, zad, zae, qac, yad, yab, qad, sst, zac, qaa, yaa, List.replicate_succ, List.drop_zero]
    | refine Sp2.f ?_ ?_
    | refine Spl.f ?_ ?_ <;> intro hb
    | refine yac rfl (fun b hb => ?_))
  refine yav (c_PNew b (by omega) _) fun v H hP => ?_
  obtain ⟨kd, kb, l0, rfl, hH, hkd, hkb, r0⟩ := hP
  have p0 := RD.mk0 hH hkd hkb r0
  clear hH hkd hkb r0 l0
  repeat' (first
    | simp (implicitDefEqProofs := false) only [push_cast, reduceIte, reduceCtorEq, Nat.reduceAdd, Nat.reduceSub, Nat.reduceEqDiff, Nat.reduceLT, Nat.reduceLeDiff, Nat.reduceBEq, Nat.reduceMul, Int.reduceLT, Int.reduceLE, Int.reduceEq, Int.reduceToNat, Int.reduceMul, Int.reduceNeg, Go.Proofs.Try.f87, zad, zae, qac, yad, yab, qad, sst, zac, qaa, yaa, List.replicate_succ, List.drop_zero]
    | refine Sp2.f ?_ ?_
    | refine Spl.f ?_ ?_ <;> intro hb
    | refine yac rfl (fun b hb => ?_))
  refine yav (p0.num 1 (by omega) (by omega)) fun v H hP => ?_
  obtain ⟨rfl, p1⟩ := hP
  repeat' (first
    | simp (implicitDefEqProofs := false) only [push_cast, reduceIte, reduceCtorEq, Nat.reduceAdd, Nat.reduceSub, Nat.reduceEqDiff, Nat.reduceLT, Nat.reduceLeDiff, Nat.reduceBEq, Nat.reduceMul, Int.reduceLT, Int.reduceLE, Int.reduceEq, Int.reduceToNat, Int.reduceMul, Int.reduceNeg, Go.Proofs.Try.f87, zad, zae, qac, yad, yab, qad, sst, zac, qaa, yaa, List.replicate_succ, List.drop_zero]
    | refine Sp2.f ?_ ?_
    | refine Spl.f ?_ ?_ <;> intro hb
    | refine yac rfl (fun b hb => ?_))
  refine yav (p1.num 4 (by omega) (by omega)) fun v H hP => ?_
  obtain ⟨rfl, p2⟩ := hP
  repeat' (first
    | simp (implicitDefEqProofs := false) only [push_cast, reduceIte, reduceCtorEq, Nat.reduceAdd, Nat.reduceSub, Nat.reduceEqDiff, Nat.reduceLT, Nat.reduceLeDiff, Nat.reduceBEq, Nat.reduceMul, Int.reduceLT, Int.reduceLE, Int.reduceEq, Int.reduceToNat, Int.reduceMul, Int.reduceNeg, Go.Proofs.Try.f87, zad, zae, qac, yad, yab, qad, sst, zac, qaa, yaa, List.replicate_succ, List.drop_zero]
    | refine Sp2.f ?_ ?_
    | refine Spl.f ?_ ?_ <;> intro hb
    | refine yac rfl (fun b hb => ?_))
  refine yav (p2.num 1 (by omega) (by omega)) fun v H hP => ?_
  obtain ⟨rfl, p3⟩ := hP
  repeat' (first
    | simp (implicitDefEqProofs := false) only [push_cast, reduceIte, reduceCtorEq, Nat.reduceAdd, Nat.reduceSub, Nat.reduceEqDiff, Nat.reduceLT, Nat.reduceLeDiff, Nat.reduceBEq, Nat.reduceMul, Int.reduceLT, Int.reduceLE, Int.reduceEq, Int.reduceToNat, Int.reduceMul, Int.reduceNeg, Go.Proofs.Try.f87, zad, zae, qac, yad, yab, qad, sst, zac, qaa, yaa, List.replicate_succ, List.drop_zero]
    | refine Sp2.f ?_ ?_
    | refine Spl.f ?_ ?_ <;> intro hb
    | refine yac rfl (fun b hb => ?_))
  refine yav (p3.num 8 (by omega) (by omega)) fun v H hP => ?_
  obtain ⟨rfl, p4⟩ := hP
  clear p0 p1 p2 p3
  generalize hA : IntKind.wrap .i64 ((⟨b, false⟩ : RS).num 1).1 = vA
  generalize hB : IntKind.wrap .i64 (((⟨b, false⟩ : RS).num 1).2.num 4).1 = vB
  generalize hC : IntKind.wrap .i64 ((((⟨b, false⟩ : RS).num 1).2.num 4).2.num 1).1 = vC
  generalize hD : IntKind.wrap .i64 (((((⟨b, false⟩ : RS).num 1).2.num 4).2.num 1).2.num 8).1 = vD
  generalize hs : (((((⟨b, false⟩ : RS).num 1).2.num 4).2.num 1).2.num 8).2 = s at p4
  repeat' (first
    | simp (implicitDefEqProofs := false) only [push_cast, reduceIte, reduceCtorEq, Nat.reduceAdd, Nat.reduceSub, Nat.reduceEqDiff, Nat.reduceLT, Nat.reduceLeDiff, Nat.reduceBEq, Nat.reduceMul, Int.reduceLT, Int.reduceLE, Int.reduceEq, Int.reduceToNat, Int.reduceMul, Int.reduceNeg, Go.Proofs.Try.f87, hA, hB, hC, hD, zad, zae, qac, yad, yab, qad, sst, zac, qaa, yaa, List.replicate_succ, List.drop_zero]
    | refine Sp2.f ?_ ?_
    | refine Spl.f ?_ ?_ <;> intro hb
    | refine yac rfl (fun b hb => ?_))
  have hk0 := p4.ln
  have pE := p4.add ⟨60, [.agg 60 [.int .i64 vA, .int .i64 vB, .int .i64 vC, .nils, .nils, .int .i64 vD]], .own⟩
  have hkh : h.length < H.length := qab (p4.got (List.mem_singleton.2 rfl))
  generalize hk5 : H.length = k5 at pE hk0 hkh ⊢
  refine yav (pE.text 1000) fun v H5 hP => ?_
  obtain ⟨rfl, p5⟩ := hP
  have c5 := p5.hd
  have l5 := qab c5
  have gt1 := c_tGet (s.text 1000).1 (by have := text_le8 s 1000; omega)
  have hP1 : (rowR s).1 = ((getT (s.text 1000).1).getD []) := rfl
  rw [← hP1] at gt1
  repeat' (first
    | simp (implicitDefEqProofs := false) only [push_cast, reduceIte, reduceCtorEq, Nat.reduceAdd, Nat.reduceSub, Nat.reduceEqDiff, Nat.reduceLT, Nat.reduceLeDiff, Nat.reduceBEq, Nat.reduceMul, Int.reduceLT, Int.reduceLE, Int.reduceEq, Int.reduceToNat, Int.reduceMul, Int.reduceNeg, Go.Proofs.Try.f87, c5, l5, qa5, ya4, za7, yb3, zce, zb3, zad, zae, qac, yad, yab, qad, sst, zac, qaa, yaa, List.replicate_succ, List.drop_zero]
    | refine Sp2.f ?_ ?_
    | refine Spl.f ?_ ?_ <;> intro hb
    | refine yac rfl (fun b hb => ?_)
    | refine qaz gt1 ?_)
  have p6 := p5.put ⟨60, [.agg 60 [.int .i64 vA, .int .i64 vB, .int .i64 vC, eFs (rowR s).1, .nils, .int .i64 vD]], .own⟩ hk0 (fun c hc => by rw [List.mem_singleton.1 hc]; show h.length ≠ k5; omega)
  refine yav (p6.text 1000) fun v H6 hP => ?_
  obtain ⟨rfl, p7⟩ := hP
  have c7 := p7.hd
  have l7 := qab c7
  obtain ⟨s2, hs2⟩ : ∃ s2, s2 = (s.text 1000).2 := ⟨_, rfl⟩
  have hr2 : (rowR s).2 = s2 := hs2.symm
  rw [← hs2] at p7 ⊢
  have gt2 := c_tGet (s2.text 1000).1 (by have := text_le8 s2 1000; omega)
  have hP2 : (rowR s2).1 = ((getT (s2.text 1000).1).getD []) := rfl
  rw [← hP2] at gt2
  repeat' (first
    | simp (implicitDefEqProofs := false) only [push_cast, reduceIte, reduceCtorEq, Nat.reduceAdd, Nat.reduceSub, Nat.reduceEqDiff, Nat.reduceLT, Nat.reduceLeDiff, Nat.reduceBEq, Nat.reduceMul, Int.reduceLT, Int.reduceLE, Int.reduceEq, Int.reduceToNat, Int.reduceMul, Int.reduceNeg, Go.Proofs.Try.f87, c7, l7, wk_eFs8, qa5, ya4, za7, yb3, zce, zb3, zad, zae, qac, yad, yab, qad, sst, zac, qaa, yaa, List.replicate_succ, List.drop_zero]
    | refine Sp2.f ?_ ?_
    | refine Spl.f ?_ ?_ <;> intro hb
    | refine yac rfl (fun b hb => ?_)
    | refine qaz gt2 ?_)
  have p8 := p7.put ⟨60, [.agg 60 [.int .i64 vA, .int .i64 vB, .int .i64 vC, eFs (rowR s).1, eFs (rowR s2).1, .int .i64 vD]], .own⟩ hk0 (fun c hc => by rw [List.mem_singleton.1 hc]; show h.length ≠ k5; omega)
  generalize H6.set k5 _ = H8 at p8 ⊢
  have c8 := p8.hd
  have l8 := qab c8
  obtain ⟨p, hp⟩ : ∃ p : Req, p = ⟨vA, vB, vC, (rowR s).1, (rowR s2).1, vD⟩ := ⟨_, rfl⟩
  have hparse : ydh ⟨b, false⟩ = (p, (rowR s2).2) := by simp only [ydh, hA, hB, hC, hD, hs, hr2, hp]
  have hsm : p.Small := by
    rw [hp]
    exact ⟨by show (rowR s).1.length ≤ _; have := rowR_len s; omega, by show (rowR s2).1.length ≤ _; have := rowR_len s2; omega⟩
  have hget := getO hparse
  have hput := c_oPut p hsm
  have heq : eQ p = .agg 60 [.int .i64 vA, .int .i64 vB, .int .i64 vC, eFs (rowR s).1, eFs (rowR s2).1, .int .i64 vD] := by rw [hp]; rfl
  rw [← heq] at p8 c8 ⊢
  have hs6 : (s2.text 1000).2 = (rowR s2).2 := rfl
  rw [hs6] at p8
  generalize (rowR s2).2 = s6 at p8 hget
  have b20 : ((2 : Int) != 0) = true := rfl
  have b10 : ((1 : Int) != 0) = true := rfl
  have b00 : ((0 : Int) != 0) = false := rfl
  have hEnd := p8.fin
  have e20 : ((2 : Int) == 0) = false := rfl
  cases hfi : s6.fine <;> cases hma : qcp p <;> rw [hfi] at hEnd <;> rw [hma] at hput
  · have hg : getQ b = none := by rw [hget, if_neg (by rw [hfi]; simp)]
    rw [hg]
    refine qaz hput ?_
    repeat' (first
    | simp (implicitDefEqProofs := false) only [push_cast, reduceIte, reduceCtorEq, Nat.reduceAdd, Nat.reduceSub, Nat.reduceEqDiff, Nat.reduceLT, Nat.reduceLeDiff, Nat.reduceBEq, Nat.reduceMul, Int.reduceLT, Int.reduceLE, Int.reduceEq, Int.reduceToNat, Int.reduceMul, Int.reduceNeg, Go.Proofs.Try.f87, c8, l8, qdl, zdu, qdt, qa5, ya4, za7, zad, zae, qac, yad, yab, qad, sst, zac, qaa, yaa, List.replicate_succ, List.drop_zero]
    | refine Sp2.f ?_ ?_
    | refine Spl.f ?_ ?_ <;> intro hb
    | refine yac rfl (fun b hb => ?_))
    refine yav hEnd fun v H9 hP => ?_
    obtain ⟨rfl, p9⟩ := hP
    have c9 := p9.hd
    have l9 := qab c9
    have z9 := p9.hd2
    have y9 := qab z9
    repeat' (first
    | simp (implicitDefEqProofs := false) only [push_cast, reduceIte, reduceCtorEq, Nat.reduceAdd, Nat.reduceSub, Nat.reduceEqDiff, Nat.reduceLT, Nat.reduceLeDiff, Nat.reduceBEq, Nat.reduceMul, Int.reduceLT, Int.reduceLE, Int.reduceEq, Int.reduceToNat, Int.reduceMul, Int.reduceNeg, Go.Proofs.Try.f87, fk_ct, c9, l9, z9, y9, b20, b10, b00, qa5, ya4, za7, zad, zae, qac, yad, yab, qad, sst, zac, qaa, yaa, List.replicate_succ, List.drop_zero]
    | refine Sp2.f ?_ ?_
    | refine Spl.f ?_ ?_ <;> intro hb
    | refine yac rfl (fun b hb => ?_))
    exact oget_bad _ _ p9.tk _
  · have hg : getQ b = none := by rw [hget, if_neg (by rw [hfi]; simp)]
    rw [hg]
    refine qaz hput ?_
    repeat' (first
    | simp (implicitDefEqProofs := false) only [push_cast, reduceIte, reduceCtorEq, Nat.reduceAdd, Nat.reduceSub, Nat.reduceEqDiff, Nat.reduceLT, Nat.reduceLeDiff, Nat.reduceBEq, Nat.reduceMul, Int.reduceLT, Int.reduceLE, Int.reduceEq, Int.reduceToNat, Int.reduceMul, Int.reduceNeg, Go.Proofs.Try.f87, c8, l8, qdl, zdu, qdt, qa5, ya4, za7, zad, zae, qac, yad, yab, qad, sst, zac, qaa, yaa, List.replicate_succ, List.drop_zero]
    | refine Sp2.f ?_ ?_
    | refine Spl.f ?_ ?_ <;> intro hb
    | refine yac rfl (fun b hb => ?_))
    refine yav hEnd fun v H9 hP => ?_
    obtain ⟨rfl, p9⟩ := hP
    have c9 := p9.hd
    have l9 := qab c9
    have z9 := p9.hd2
    have y9 := qab z9
    repeat' (first
    | simp (implicitDefEqProofs := false) only [push_cast, reduceIte, reduceCtorEq, Nat.reduceAdd, Nat.reduceSub, Nat.reduceEqDiff, Nat.reduceLT, Nat.reduceLeDiff, Nat.reduceBEq, Nat.reduceMul, Int.reduceLT, Int.reduceLE, Int.reduceEq, Int.reduceToNat, Int.reduceMul, Int.reduceNeg, Go.Proofs.Try.f87, fk_ct, c9, l9, z9, y9, b20, b10, b00, qa5, ya4, za7, zad, zae, qac, yad, yab, qad, sst, zac, qaa, yaa, List.replicate_succ, List.drop_zero]
    | refine Sp2.f ?_ ?_
    | refine Spl.f ?_ ?_ <;> intro hb
    | refine yac rfl (fun b hb => ?_))
    exact oget_bad _ _ p9.tk _
  · have hg : getQ b = none := by rw [hget, if_neg (by rw [hma]; simp)]
    rw [hg]
    refine qaz hput ?_
    repeat' (first
    | simp (implicitDefEqProofs := false) only [push_cast, reduceIte, reduceCtorEq, Nat.reduceAdd, Nat.reduceSub, Nat.reduceEqDiff, Nat.reduceLT, Nat.reduceLeDiff, Nat.reduceBEq, Nat.reduceMul, Int.reduceLT, Int.reduceLE, Int.reduceEq, Int.reduceToNat, Int.reduceMul, Int.reduceNeg, Go.Proofs.Try.f87, c8, l8, qdl, zdu, qdt, qa5, ya4, za7, zad, zae, qac, yad, yab, qad, sst, zac, qaa, yaa, List.replicate_succ, List.drop_zero]
    | refine Sp2.f ?_ ?_
    | refine Spl.f ?_ ?_ <;> intro hb
    | refine yac rfl (fun b hb => ?_))
    refine yav hEnd fun v H9 hP => ?_
    obtain ⟨rfl, p9⟩ := hP
    have c9 := p9.hd
    have l9 := qab c9
    have z9 := p9.hd2
    have y9 := qab z9
    repeat' (first
    | simp (implicitDefEqProofs := false) only [push_cast, reduceIte, reduceCtorEq, Nat.reduceAdd, Nat.reduceSub, Nat.reduceEqDiff, Nat.reduceLT, Nat.reduceLeDiff, Nat.reduceBEq, Nat.reduceMul, Int.reduceLT, Int.reduceLE, Int.reduceEq, Int.reduceToNat, Int.reduceMul, Int.reduceNeg, Go.Proofs.Try.f87, fk_ct, c9, l9, z9, y9, b20, b10, b00, qa5, ya4, za7, zad, zae, qac, yad, yab, qad, sst, zac, qaa, yaa, List.replicate_succ, List.drop_zero]
    | refine Sp2.f ?_ ?_
    | refine Spl.f ?_ ?_ <;> intro hb
    | refine yac rfl (fun b hb => ?_))
    exact oget_bad _ _ p9.tk _
  · have hEq := c_Equal_B (yc7 p) b (by have := ybo p.P; have := ybo p.T; simp [yc7, nb, qax, zbb]; omega) (by omega)
    cases hq : yc7 p == b
    · rw [hq] at hEq
      have hg : getQ b = none := by rw [hget, if_neg (fun e => by rw [e.2.2] at hq; simp at hq)]
      rw [hg]
      refine qaz hput ?_
      repeat' (first
    | simp (implicitDefEqProofs := false) only [push_cast, reduceIte, reduceCtorEq, Nat.reduceAdd, Nat.reduceSub, Nat.reduceEqDiff, Nat.reduceLT, Nat.reduceLeDiff, Nat.reduceBEq, Nat.reduceMul, Int.reduceLT, Int.reduceLE, Int.reduceEq, Int.reduceToNat, Int.reduceMul, Int.reduceNeg, Go.Proofs.Try.f87, c8, l8, qdl, zdu, qdt, qa5, ya4, za7, zad, zae, qac, yad, yab, qad, sst, zac, qaa, yaa, List.replicate_succ, List.drop_zero]
    | refine Sp2.f ?_ ?_
    | refine Spl.f ?_ ?_ <;> intro hb
    | refine yac rfl (fun b hb => ?_))
      refine yav hEnd fun v H9 hP => ?_
      obtain ⟨rfl, p9⟩ := hP
      have c9 := p9.hd
      have l9 := qab c9
      have z9 := p9.hd2
      have y9 := qab z9
      repeat' (first
    | simp (implicitDefEqProofs := false) only [push_cast, reduceIte, reduceCtorEq, Nat.reduceAdd, Nat.reduceSub, Nat.reduceEqDiff, Nat.reduceLT, Nat.reduceLeDiff, Nat.reduceBEq, Nat.reduceMul, Int.reduceLT, Int.reduceLE, Int.reduceEq, Int.reduceToNat, Int.reduceMul, Int.reduceNeg, Go.Proofs.Try.f87, fk_ct, c9, l9, z9, y9, b20, b10, b00, qa5, ya4, za7, zad, zae, qac, yad, yab, qad, sst, zac, qaa, yaa, List.replicate_succ, List.drop_zero]
    | refine Sp2.f ?_ ?_
    | refine Spl.f ?_ ?_ <;> intro hb
    | refine yac rfl (fun b hb => ?_)
    | refine qaz hEq ?_)
      exact oget_bad _ _ p9.tk _
    · rw [hq] at hEq
      have hg : getQ b = some p := by rw [hget, if_pos ⟨hfi, hma, eq_of_beq hq⟩]
      rw [hg]
      refine qaz hput ?_
      repeat' (first
    | simp (implicitDefEqProofs := false) only [push_cast, reduceIte, reduceCtorEq, Nat.reduceAdd, Nat.reduceSub, Nat.reduceEqDiff, Nat.reduceLT, Nat.reduceLeDiff, Nat.reduceBEq, Nat.reduceMul, Int.reduceLT, Int.reduceLE, Int.reduceEq, Int.reduceToNat, Int.reduceMul, Int.reduceNeg, Go.Proofs.Try.f87, c8, l8, qdl, zdu, qdt, qa5, ya4, za7, zad, zae, qac, yad, yab, qad, sst, zac, qaa, yaa, List.replicate_succ, List.drop_zero]
    | refine Sp2.f ?_ ?_
    | refine Spl.f ?_ ?_ <;> intro hb
    | refine yac rfl (fun b hb => ?_))
      refine yav hEnd fun v H9 hP => ?_
      obtain ⟨rfl, p9⟩ := hP
      have c9 := p9.hd
      have l9 := qab c9
      have z9 := p9.hd2
      have y9 := qab z9
      repeat' (first
    | simp (implicitDefEqProofs := false) only [push_cast, reduceIte, reduceCtorEq, Nat.reduceAdd, Nat.reduceSub, Nat.reduceEqDiff, Nat.reduceLT, Nat.reduceLeDiff, Nat.reduceBEq, Nat.reduceMul, Int.reduceLT, Int.reduceLE, Int.reduceEq, Int.reduceToNat, Int.reduceMul, Int.reduceNeg, Go.Proofs.Try.f87, fk_ct, c9, l9, z9, y9, b20, b10, b00, qdl, zdu, qa5, ya4, za7, zad, zae, qac, yad, yab, qad, sst, zac, qaa, yaa, List.replicate_succ, List.drop_zero]
    | refine Sp2.f ?_ ?_
    | refine Spl.f ?_ ?_ <;> intro hb
    | refine yac rfl (fun b hb => ?_)
    | refine qaz hEq ?_)
      exact oget_good p9.tk p _
end Go.Abs
