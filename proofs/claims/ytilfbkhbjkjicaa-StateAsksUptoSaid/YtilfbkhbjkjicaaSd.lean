/- Sd: a part of the proofs about the tuple space and its bytes. -/
import Derived.Test.YtilfbkhbjkjicaaSb
set_option linter.all false
set_option maxRecDepth 100000
set_option maxHeartbeats 0
namespace Go.Abs
open Go
open Go.Proofs.Try (prog)
theorem c_blockW (v : V8) (rs : List UInt8) (c : Int) {h : List Entry} {kd : Nat} (hk : h[kd]? = some (dgL v.l rs c)) (hl : rs.length = 64) :
    FSpec prog 151 [.ref kd [0] 184, .win kd [0, 1] 5 0 64 64] h fun r h' => r = .tup [] ∧ h' = h.set kd (dgL (qbw v rs 1).l rs c) := by
  refine det_setU wfp (qdn ..) (frun_151 rfl ?_)
  have hkd := zac hk
  repeat' (first
    | simp (implicitDefEqProofs := false) only [push_cast, reduceIte, reduceCtorEq, Nat.reduceAdd, Nat.reduceSub, Nat.reduceEqDiff, Nat.reduceLT, Nat.reduceLeDiff, Nat.reduceBEq, Nat.reduceMul, Int.reduceLT, Int.reduceLE, Int.reduceEq, Int.reduceToNat, Int.reduceMul, Int.reduceNeg, Go.Proofs.Try.f151, yad, zae, qac, zad, yab, qad, sst, qab, yaa, qaa, List.replicate_succ, List.drop_zero]
    | refine Sp2.f ?_ ?_
    | refine Spl.f ?_ ?_ <;> intro hb
    | refine yac rfl (fun b hb => ?_)
    | refine zaa (U := [[], [], [], [], [], [], [], [], [], [], [], [], [], [], [], [], [], [], [], [], [], [], [], [], [], [], [], [], [], [], [], [], [], [], [], []]) (H := []) zaf (by kernel_rfl) (by decide +kernel) (by kernel_rfl) ?_
    | refine zaa (U := [[], [], [], [], [], [], [], [], [], []]) (H := []) zaf (by kernel_rfl) (by decide +kernel) (by kernel_rfl) ?_
    | refine zaa (U := [[], [], [], [], [], [], [], [], [], [], [], [], [], [], [], []]) (H := []) zaf (by kernel_rfl) (by decide +kernel) (by kernel_rfl) ?_
    | refine zaa (U := [[], [], [], [], [], []]) (H := []) zaf (by kernel_rfl) (by decide +kernel) (by kernel_rfl) ?_
    | refine zaa (U := [[], [], [], [], [], [], [], [], [], [], [], [], [], [], [], [], [], [], [], [], [], [], [], []]) (H := []) zaf (by kernel_rfl) (by decide +kernel) (by kernel_rfl) ?_
    | refine zaa (U := [[], [], [], [], [], [], [], [], [], [], [], [], [], []]) (H := []) zaf (by kernel_rfl) (by decide +kernel) (by kernel_rfl) ?_
    | refine zay c_rounds ?_)
  refine qau (fun i env H => i ≤ 1 ∧ H.take h.length = h.set kd (dgL (qbw v rs i).l rs c) ∧ H[h.length]? = some (wE kTab) ∧ (∃ wl, wl.length = 64 ∧ H[h.length + 1]? = some (wE wl)) ∧ env = (fun a : Nat → AV => [(0, .ref kd [0] 184), (1, .win kd [0, 1] 5 (64 * i) (64 - 64 * i) (64 - 64 * i)), (4, .ref h.length [0] 185), (5, .ref (h.length + 1) [0] 185), (6, a 6), (7, a 7), (8, a 8), (9, a 9), (10, a 10), (11, a 11), (12, a 12), (13, a 13), (14, a 14), (15, a 15), (16, a 16), (17, a 17), (18, a 18), (19, a 19), (23, a 23), (26, a 26), (27, a 27), (66, a 66), (112, a 112), (113, a 113), (203, a 203), (204, a 204)]) (lk env)) 1 ?_ ?_
  · refine ⟨Nat.zero_le _, ?_, zar .., ⟨List.replicate 64 0, rfl, qa9 ..⟩, rfl⟩
    rw [List.take_append_of_le_length (Nat.le_refl _), List.take_length]
    exact (ybl hk).symm
  rintro i env H ⟨hi, hT, a0, ⟨wl, hwl, a1⟩, henv⟩
  refine ⟨hi, ?_⟩
  rw [henv]
  generalize lk env = a
  clear henv env
  have l0 := zac a0
  have l1 := zac a1
  have ak : H[kd]? = some (dgL (qbw v rs i).l rs c) := by rw [ydl hT hkd, List.getElem?_set_self hkd]
  by_cases hlt : i < 1
  · obtain rfl : i = 0 := by omega
    have hsb : ∀ j, j < 64 → rs.getD j 0 = ((rs.drop (64 * 0)).take 64).getD j 0 := fun j hj => by
      rw [List.getD_eq_getElem?_getD, List.getD_eq_getElem?_getD, List.getElem?_take, if_pos hj]; rfl
    have hblk : qbw v rs (0 + 1) = blk (qbw v rs 0) ((rs.drop (64 * 0)).take 64) := rfl
    generalize qbw v rs 0 = u at hT ak hblk
    generalize (rs.drop (64 * 0)).take 64 = sb at hsb hblk
    simp only [Nat.mul_zero, Nat.sub_zero]
    repeat' (first
    | simp (implicitDefEqProofs := false) only [push_cast, reduceIte, reduceCtorEq, Nat.reduceAdd, Nat.reduceSub, Nat.reduceEqDiff, Nat.reduceLT, Nat.reduceLeDiff, Nat.reduceBEq, Nat.reduceMul, Int.reduceLT, Int.reduceLE, Int.reduceEq, Int.reduceToNat, Int.reduceMul, Int.reduceNeg, Go.Proofs.Try.f151, ycg, yad, zae, qac, zad, yab, qad, sst, qab, yaa, qaa, List.replicate_succ, List.drop_zero]
    | refine Sp2.f ?_ ?_
    | refine Spl.f ?_ ?_ <;> intro hb
    | refine yac rfl (fun b hb => ?_)
    | refine zaa (U := [[], [], [], [], [], [], [], [], [], [], [], [], [], [], [], [], [], [], [], [], [], [], [], [], [], [], [], [], [], [], [], [], [], [], [], []]) (H := []) zaf (by kernel_rfl) (by decide +kernel) (by kernel_rfl) ?_
    | refine zaa (U := [[], [], [], [], [], [], [], [], [], []]) (H := []) zaf (by kernel_rfl) (by decide +kernel) (by kernel_rfl) ?_
    | refine zaa (U := [[], [], [], [], [], [], [], [], [], [], [], [], [], [], [], []]) (H := []) zaf (by kernel_rfl) (by decide +kernel) (by kernel_rfl) ?_
    | refine zaa (U := [[], [], [], [], [], []]) (H := []) zaf (by kernel_rfl) (by decide +kernel) (by kernel_rfl) ?_
    | refine zaa (U := [[], [], [], [], [], [], [], [], [], [], [], [], [], [], [], [], [], [], [], [], [], [], [], []]) (H := []) zaf (by kernel_rfl) (by decide +kernel) (by kernel_rfl) ?_
    | refine zaa (U := [[], [], [], [], [], [], [], [], [], [], [], [], [], []]) (H := []) zaf (by kernel_rfl) (by decide +kernel) (by kernel_rfl) ?_)
    rw [← qa8]
    refine qce 2 (fun e env' h' => e = .normal ∧ h' = H.set (h.length + 1) (wE (wAt sb wl 16)) ∧ env' = (fun a : Nat → AV => [(0, .ref kd [0] 184), (1, .win kd [0, 1] 5 0 64 64), (4, .ref h.length [0] 185), (5, .ref (h.length + 1) [0] 185), (6, a 6), (7, a 7), (8, a 8), (9, a 9), (10, a 10), (11, a 11), (12, a 12), (13, a 13), (14, a 14), (15, a 15), (16, a 16), (17, a 17), (18, a 18), (19, a 19), (23, a 23), (26, a 26), (27, a 27), (66, a 66), (112, a 112), (113, a 113), (203, a 203), (204, a 204)]) (lk env')) ?_ ?_
    · simp only [List.take_succ_cons, List.take_zero, qa8]
      refine qax (fun j a => [(0, .ref kd [0] 184), (1, .win kd [0, 1] 5 0 64 64), (4, .ref h.length [0] 185), (5, .ref (h.length + 1) [0] 185), (6, a 6), (7, a 7), (8, a 8), (9, a 9), (10, a 10), (11, a 11), (12, a 12), (13, a 13), (14, a 14), (15, a 15), (16, a 16), (17, a 17), (18, a 18), (19, a 19), (23, a 23), (26, .int .i64 j), (27, a 27), (66, a 66), (112, a 112), (113, a 113), (203, a 203), (204, a 204)]) (fun j _ => H.set (h.length + 1) (wE (wAt sb wl j))) (fun j => j ≤ 16) 16 (za3 rfl ⟨[], (ybl (by rw [a1]; simp [wAt, ybk])).symm⟩ (Nat.zero_le _)) ?_
      clear a
      rintro j a g hj
      refine ⟨hj, ?_⟩
      by_cases hj16 : j < 16
      · have hc : decide ((j : Int) < 16) = true := by simp; omega
        obtain ⟨q, hq⟩ : ∃ q, q = 4 * j := ⟨_, rfl⟩
        have m0 : IntKind.wrap .i64 (4 * (j : Int)) = (q : Int) := qap q (by omega) (by omega)
        have m1 : IntKind.wrap .i64 ((q : Int) + 1) = ((q + 1 : Nat) : Int) := qap (q + 1) (by omega) (by omega)
        have m2 : IntKind.wrap .i64 ((q : Int) + 2) = ((q + 2 : Nat) : Int) := qap (q + 2) (by omega) (by omega)
        have m3 : IntKind.wrap .i64 ((q : Int) + 3) = ((q + 3 : Nat) : Int) := qap (q + 3) (by omega) (by omega)
        obtain ⟨q1, hq1⟩ : ∃ x, x = q + 1 := ⟨_, rfl⟩
        obtain ⟨q2, hq2⟩ : ∃ x, x = q + 2 := ⟨_, rfl⟩
        obtain ⟨q3, hq3⟩ : ∃ x, x = q + 3 := ⟨_, rfl⟩
        rw [← hq1] at m1
        rw [← hq2] at m2
        rw [← hq3] at m3
        have c0 : (0 ≤ (q : Int) ∧ (q : Int) < 64) = True := by simp; omega
        have c1 : (0 ≤ (q1 : Int) ∧ (q1 : Int) < 64) = True := by simp; omega
        have c2 : (0 ≤ (q2 : Int) ∧ (q2 : Int) < 64) = True := by simp; omega
        have c3 : (0 ≤ (q3 : Int) ∧ (q3 : Int) < 64) = True := by simp; omega
        have d0 := get_mapB (show q < rs.length by omega)
        have d1 := get_mapB (show q1 < rs.length by omega)
        have d2 := get_mapB (show q2 < rs.length by omega)
        have d3 := get_mapB (show q3 < rs.length by omega)
        have hr : (0 ≤ (j : Int) ∧ (j : Int) < 64) = True := by simp; omega
        have hgj : ∃ y, ((wAt sb wl j).map eN)[j]? = some y := ⟨_, List.getElem?_eq_getElem (by simp only [List.length_map, yc9 sb wl j hwl (by omega)]; omega)⟩
        obtain ⟨y, hgj⟩ := hgj
        have hset := qdp sb wl (j := j) hwl (by omega)
        have hnx : ydf sb j (ybk sb j) = be32 (rs.getD q 0) (rs.getD q1 0) (rs.getD q2 0) (rs.getD q3 0) := by
          rw [ydf, if_pos hj16, hsb q (by omega), hsb q1 (by omega), hsb q2 (by omega), hsb q3 (by omega), hq1, hq2, hq3, hq]
        rw [hnx] at hset
        repeat' (first
    | simp (implicitDefEqProofs := false) only [push_cast, reduceIte, reduceCtorEq, Nat.reduceAdd, Nat.reduceSub, Nat.reduceEqDiff, Nat.reduceLT, Nat.reduceLeDiff, Nat.reduceBEq, Nat.reduceMul, Int.reduceLT, Int.reduceLE, Int.reduceEq, Int.reduceToNat, Int.reduceMul, Int.reduceNeg, Go.Proofs.Try.f151, hc, m0, m1, m2, m3, c0, c1, c2, c3, d0, d1, d2, d3, hr, hgj, ycg, wE, l1, ak, dgL, eB_eq, zaj hkd, yag hkd, za4 hkd, yaj hkd, List.length_map, Int.toNat_natCast, qae (show j < 9223372036854775807 by omega), yad, zae, qac, zad, yab, qad, sst, qab, yaa, qaa, List.replicate_succ, List.drop_zero]
    | refine Sp2.f ?_ ?_
    | refine Spl.f ?_ ?_ <;> intro hb
    | refine yac rfl (fun b hb => ?_)
    | refine zaa (U := [[], [], [], [], [], [], [], [], [], [], [], [], [], [], [], [], [], [], [], [], [], [], [], [], [], [], [], [], [], [], [], [], [], [], [], []]) (H := []) zaf (by kernel_rfl) (by decide +kernel) (by kernel_rfl) ?_
    | refine zaa (U := [[], [], [], [], [], [], [], [], [], []]) (H := []) zaf (by kernel_rfl) (by decide +kernel) (by kernel_rfl) ?_
    | refine zaa (U := [[], [], [], [], [], [], [], [], [], [], [], [], [], [], [], []]) (H := []) zaf (by kernel_rfl) (by decide +kernel) (by kernel_rfl) ?_
    | refine zaa (U := [[], [], [], [], [], []]) (H := []) zaf (by kernel_rfl) (by decide +kernel) (by kernel_rfl) ?_
    | refine zaa (U := [[], [], [], [], [], [], [], [], [], [], [], [], [], [], [], [], [], [], [], [], [], [], [], []]) (H := []) zaf (by kernel_rfl) (by decide +kernel) (by kernel_rfl) ?_
    | refine zaa (U := [[], [], [], [], [], [], [], [], [], [], [], [], [], []]) (H := []) zaf (by kernel_rfl) (by decide +kernel) (by kernel_rfl) ?_)
        refine za3 rfl ⟨[], ?_⟩ hj16
        show _ = H.set (h.length + 1) (wE (wAt sb wl (j + 1)))
        rw [wE, ← hset]
        rfl
      · have hc : decide ((j : Int) < 16) = false := by simp; omega
        have h16 : j = 16 := by omega
        repeat' (first
    | simp (implicitDefEqProofs := false) only [push_cast, reduceIte, reduceCtorEq, Nat.reduceAdd, Nat.reduceSub, Nat.reduceEqDiff, Nat.reduceLT, Nat.reduceLeDiff, Nat.reduceBEq, Nat.reduceMul, Int.reduceLT, Int.reduceLE, Int.reduceEq, Int.reduceToNat, Int.reduceMul, Int.reduceNeg, Go.Proofs.Try.f151, hc]
    | refine Sp2.f ?_ ?_
    | refine Spl.f ?_ ?_ <;> intro hb
    | refine yac rfl (fun b hb => ?_)
    | refine zaa (U := [[], [], [], [], [], [], [], [], [], [], [], [], [], [], [], [], [], [], [], [], [], [], [], [], [], [], [], [], [], [], [], [], [], [], [], []]) (H := []) zaf (by kernel_rfl) (by decide +kernel) (by kernel_rfl) ?_
    | refine zaa (U := [[], [], [], [], [], [], [], [], [], []]) (H := []) zaf (by kernel_rfl) (by decide +kernel) (by kernel_rfl) ?_
    | refine zaa (U := [[], [], [], [], [], [], [], [], [], [], [], [], [], [], [], []]) (H := []) zaf (by kernel_rfl) (by decide +kernel) (by kernel_rfl) ?_
    | refine zaa (U := [[], [], [], [], [], []]) (H := []) zaf (by kernel_rfl) (by decide +kernel) (by kernel_rfl) ?_
    | refine zaa (U := [[], [], [], [], [], [], [], [], [], [], [], [], [], [], [], [], [], [], [], [], [], [], [], []]) (H := []) zaf (by kernel_rfl) (by decide +kernel) (by kernel_rfl) ?_
    | refine zaa (U := [[], [], [], [], [], [], [], [], [], [], [], [], [], []]) (H := []) zaf (by kernel_rfl) (by decide +kernel) (by kernel_rfl) ?_)
        first | exact ⟨rfl, by rw [h16], rfl⟩ | rw [h16]
    rintro _ env' _ ⟨rfl, rfl, henv⟩
    rw [henv]
    generalize lk env' = a
    clear henv env'
    simp only [List.drop_succ_cons, List.drop_zero]
    repeat' (first
    | simp (implicitDefEqProofs := false) only [push_cast, reduceIte, reduceCtorEq, Nat.reduceAdd, Nat.reduceSub, Nat.reduceEqDiff, Nat.reduceLT, Nat.reduceLeDiff, Nat.reduceBEq, Nat.reduceMul, Int.reduceLT, Int.reduceLE, Int.reduceEq, Int.reduceToNat, Int.reduceMul, Int.reduceNeg, Go.Proofs.Try.f151]
    | refine Sp2.f ?_ ?_
    | refine Spl.f ?_ ?_ <;> intro hb
    | refine yac rfl (fun b hb => ?_)
    | refine zaa (U := [[], [], [], [], [], [], [], [], [], [], [], [], [], [], [], [], [], [], [], [], [], [], [], [], [], [], [], [], [], [], [], [], [], [], [], []]) (H := []) zaf (by kernel_rfl) (by decide +kernel) (by kernel_rfl) ?_
    | refine zaa (U := [[], [], [], [], [], [], [], [], [], []]) (H := []) zaf (by kernel_rfl) (by decide +kernel) (by kernel_rfl) ?_
    | refine zaa (U := [[], [], [], [], [], [], [], [], [], [], [], [], [], [], [], []]) (H := []) zaf (by kernel_rfl) (by decide +kernel) (by kernel_rfl) ?_
    | refine zaa (U := [[], [], [], [], [], []]) (H := []) zaf (by kernel_rfl) (by decide +kernel) (by kernel_rfl) ?_
    | refine zaa (U := [[], [], [], [], [], [], [], [], [], [], [], [], [], [], [], [], [], [], [], [], [], [], [], []]) (H := []) zaf (by kernel_rfl) (by decide +kernel) (by kernel_rfl) ?_
    | refine zaa (U := [[], [], [], [], [], [], [], [], [], [], [], [], [], []]) (H := []) zaf (by kernel_rfl) (by decide +kernel) (by kernel_rfl) ?_)
    rw [← qa8]
    refine qce 2 (fun e env' h' => e = .normal ∧ h' = H.set (h.length + 1) (wE (wAt sb wl 64)) ∧ env' = (fun a : Nat → AV => [(0, .ref kd [0] 184), (1, .win kd [0, 1] 5 0 64 64), (4, .ref h.length [0] 185), (5, .ref (h.length + 1) [0] 185), (6, a 6), (7, a 7), (8, a 8), (9, a 9), (10, a 10), (11, a 11), (12, a 12), (13, a 13), (14, a 14), (15, a 15), (16, a 16), (17, a 17), (18, a 18), (19, a 19), (23, a 23), (26, a 26), (27, a 27), (66, a 66), (112, a 112), (113, a 113), (203, a 203), (204, a 204)]) (lk env')) ?_ ?_
    · simp only [List.take_succ_cons, List.take_zero, qa8]
      refine qax (fun i a => [(0, .ref kd [0] 184), (1, .win kd [0, 1] 5 0 64 64), (4, .ref h.length [0] 185), (5, .ref (h.length + 1) [0] 185), (6, a 6), (7, .int .i64 ((16 + i : Nat) : Int)), (8, a 8), (9, a 9), (10, a 10), (11, a 11), (12, a 12), (13, a 13), (14, a 14), (15, a 15), (16, a 16), (17, a 17), (18, a 18), (19, a 19), (23, a 23), (26, a 26), (27, a 27), (66, a 66), (112, a 112), (113, a 113), (203, a 203), (204, a 204)]) (fun i _ => H.set (h.length + 1) (wE (wAt sb wl (16 + i)))) (fun i => i ≤ 48) 48 (za3 rfl ⟨[], rfl⟩ (Nat.zero_le _)) ?_
      clear a
      rintro i2 a g hi2
      refine ⟨hi2, ?_⟩
      obtain ⟨j, hj⟩ : ∃ j, j = 16 + i2 := ⟨_, rfl⟩
      have hj1 : 16 + (i2 + 1) = j + 1 := by omega
      rw [← hj]
      by_cases hj64 : j < 64
      · have hc : decide ((j : Int) < 64) = true := by simp; omega
        obtain ⟨p15, q15⟩ : ∃ x, x = j - 15 := ⟨_, rfl⟩
        obtain ⟨p2, q2⟩ : ∃ x, x = j - 2 := ⟨_, rfl⟩
        obtain ⟨p16, q16⟩ : ∃ x, x = j - 16 := ⟨_, rfl⟩
        obtain ⟨p7, q7⟩ : ∃ x, x = j - 7 := ⟨_, rfl⟩
        have s15 : IntKind.wrap .i64 ((j : Int) - 15) = (p15 : Int) := qap p15 (by omega) (by omega)
        have s2 : IntKind.wrap .i64 ((j : Int) - 2) = (p2 : Int) := qap p2 (by omega) (by omega)
        have s16 : IntKind.wrap .i64 ((j : Int) - 16) = (p16 : Int) := qap p16 (by omega) (by omega)
        have s7 : IntKind.wrap .i64 ((j : Int) - 7) = (p7 : Int) := qap p7 (by omega) (by omega)
        have r15 : (0 ≤ (p15 : Int) ∧ (p15 : Int) < 64) = True := by simp; omega
        have r2 : (0 ≤ (p2 : Int) ∧ (p2 : Int) < 64) = True := by simp; omega
        have r16 : (0 ≤ (p16 : Int) ∧ (p16 : Int) < 64) = True := by simp; omega
        have r7 : (0 ≤ (p7 : Int) ∧ (p7 : Int) < 64) = True := by simp; omega
        have hr : (0 ≤ (j : Int) ∧ (j : Int) < 64) = True := by simp; omega
        have g15 := ybx sb wl (show p15 < j by omega)
        have g2 := ybx sb wl (show p2 < j by omega)
        have g16 := ybx sb wl (show p16 < j by omega)
        have g7 := ybx sb wl (show p7 < j by omega)
        have hgj : ∃ y, ((wAt sb wl j).map eN)[j]? = some y := ⟨_, List.getElem?_eq_getElem (by simp only [List.length_map, yc9 sb wl j hwl (by omega)]; omega)⟩
        obtain ⟨y, hgj⟩ := hgj
        have hset := qdp sb wl (j := j) hwl hj64
        have hnx : ydf sb j (ybk sb j) = zbe (zbe (zbe ((ybk sb j).getD p16 0) (sg0 ((ybk sb j).getD p15 0))) ((ybk sb j).getD p7 0)) (sg1 ((ybk sb j).getD p2 0)) := by
          rw [ydf, if_neg (by omega), q15, q2, q16, q7]
        rw [hnx] at hset
        generalize (ybk sb j).getD p15 0 = x15 at g15 hset
        generalize (ybk sb j).getD p2 0 = x2 at g2 hset
        generalize (ybk sb j).getD p16 0 = x16 at g16 hset
        generalize (ybk sb j).getD p7 0 = x7 at g7 hset
        repeat' (first
    | simp (implicitDefEqProofs := false) only [push_cast, reduceIte, reduceCtorEq, Nat.reduceAdd, Nat.reduceSub, Nat.reduceEqDiff, Nat.reduceLT, Nat.reduceLeDiff, Nat.reduceBEq, Nat.reduceMul, Int.reduceLT, Int.reduceLE, Int.reduceEq, Int.reduceToNat, Int.reduceMul, Int.reduceNeg, Go.Proofs.Try.f151, hc, s15, s2, s16, s7, r15, r2, r16, r7, hr, g15, g2, g16, g7, hgj, ycg, wE, eN, l1, List.length_map, Int.toNat_natCast, qae (show j < 9223372036854775807 by omega), yad, zae, qac, zad, yab, qad, sst, qab, yaa, qaa, List.replicate_succ, List.drop_zero]
    | refine Sp2.f ?_ ?_
    | refine Spl.f ?_ ?_ <;> intro hb
    | refine yac rfl (fun b hb => ?_)
    | refine zaa (U := [[], [], [], [], [], [], [], [], [], [], [], [], [], [], [], [], [], [], [], [], [], [], [], [], [], [], [], [], [], [], [], [], [], [], [], []]) (H := []) zaf (by kernel_rfl) (by decide +kernel) (by kernel_rfl) ?_
    | refine zaa (U := [[], [], [], [], [], [], [], [], [], []]) (H := []) zaf (by kernel_rfl) (by decide +kernel) (by kernel_rfl) ?_
    | refine zaa (U := [[], [], [], [], [], [], [], [], [], [], [], [], [], [], [], []]) (H := []) zaf (by kernel_rfl) (by decide +kernel) (by kernel_rfl) ?_
    | refine zaa (U := [[], [], [], [], [], []]) (H := []) zaf (by kernel_rfl) (by decide +kernel) (by kernel_rfl) ?_
    | refine zaa (U := [[], [], [], [], [], [], [], [], [], [], [], [], [], [], [], [], [], [], [], [], [], [], [], []]) (H := []) zaf (by kernel_rfl) (by decide +kernel) (by kernel_rfl) ?_
    | refine zaa (U := [[], [], [], [], [], [], [], [], [], [], [], [], [], []]) (H := []) zaf (by kernel_rfl) (by decide +kernel) (by kernel_rfl) ?_
    | refine zay (rot7 x15) ?_
    | refine zay (rot18 x15) ?_
    | refine zay (rot17 x2) ?_
    | refine zay (rot19 x2) ?_)
        refine za3 (by subst hj; rfl) ⟨[], ?_⟩ (by omega)
        show _ = H.set (h.length + 1) (wE (wAt sb wl (16 + (i2 + 1))))
        rw [hj1, wE, ← hset]
        rfl
      · have hc : decide ((j : Int) < 64) = false := by simp; omega
        have h64 : j = 64 := by omega
        repeat' (first
    | simp (implicitDefEqProofs := false) only [push_cast, reduceIte, reduceCtorEq, Nat.reduceAdd, Nat.reduceSub, Nat.reduceEqDiff, Nat.reduceLT, Nat.reduceLeDiff, Nat.reduceBEq, Nat.reduceMul, Int.reduceLT, Int.reduceLE, Int.reduceEq, Int.reduceToNat, Int.reduceMul, Int.reduceNeg, Go.Proofs.Try.f151, hc]
    | refine Sp2.f ?_ ?_
    | refine Spl.f ?_ ?_ <;> intro hb
    | refine yac rfl (fun b hb => ?_)
    | refine zaa (U := [[], [], [], [], [], [], [], [], [], [], [], [], [], [], [], [], [], [], [], [], [], [], [], [], [], [], [], [], [], [], [], [], [], [], [], []]) (H := []) zaf (by kernel_rfl) (by decide +kernel) (by kernel_rfl) ?_
    | refine zaa (U := [[], [], [], [], [], [], [], [], [], []]) (H := []) zaf (by kernel_rfl) (by decide +kernel) (by kernel_rfl) ?_
    | refine zaa (U := [[], [], [], [], [], [], [], [], [], [], [], [], [], [], [], []]) (H := []) zaf (by kernel_rfl) (by decide +kernel) (by kernel_rfl) ?_
    | refine zaa (U := [[], [], [], [], [], []]) (H := []) zaf (by kernel_rfl) (by decide +kernel) (by kernel_rfl) ?_
    | refine zaa (U := [[], [], [], [], [], [], [], [], [], [], [], [], [], [], [], [], [], [], [], [], [], [], [], []]) (H := []) zaf (by kernel_rfl) (by decide +kernel) (by kernel_rfl) ?_
    | refine zaa (U := [[], [], [], [], [], [], [], [], [], [], [], [], [], []]) (H := []) zaf (by kernel_rfl) (by decide +kernel) (by kernel_rfl) ?_)
        first | exact ⟨rfl, by rw [h64], rfl⟩ | rw [h64]
    rintro _ env' _ ⟨rfl, rfl, henv⟩
    rw [henv]
    generalize lk env' = a
    clear henv env'
    rw [wAt_64 sb wl hwl]
    have b0 : (H.set (h.length + 1) (wE (ybk sb 64)))[h.length]? = some (wE kTab) := (qac (by omega)).trans a0
    have b1 : (H.set (h.length + 1) (wE (ybk sb 64)))[h.length + 1]? = some (wE (ybk sb 64)) := zad l1
    have bk : (H.set (h.length + 1) (wE (ybk sb 64)))[kd]? = some (dgL u.l rs c) := (qac (by omega)).trans ak
    have bT : (H.set (h.length + 1) (wE (ybk sb 64))).take h.length = h.set kd (dgL u.l rs c) := by rw [List.take_set_of_le (by omega)]; exact hT
    generalize H.set (h.length + 1) (wE (ybk sb 64)) = H1 at *
    clear a0 a1 ak hT l0 l1 hwl wl H
    have l0 := zac b0
    have l1 := zac b1
    have lk1 := zac bk
    simp only [List.drop_succ_cons, List.drop_zero]
    repeat' (first
    | simp (implicitDefEqProofs := false) only [push_cast, reduceIte, reduceCtorEq, Nat.reduceAdd, Nat.reduceSub, Nat.reduceEqDiff, Nat.reduceLT, Nat.reduceLeDiff, Nat.reduceBEq, Nat.reduceMul, Int.reduceLT, Int.reduceLE, Int.reduceEq, Int.reduceToNat, Int.reduceMul, Int.reduceNeg, Go.Proofs.Try.f151, bk, dgL, yad, zae, qac, zad, yab, qad, sst, qab, yaa, qaa, List.replicate_succ, List.drop_zero]
    | refine Sp2.f ?_ ?_
    | refine Spl.f ?_ ?_ <;> intro hb
    | refine yac rfl (fun b hb => ?_)
    | refine zaa (U := [[], [], [], [], [], [], [], [], [], [], [], [], [], [], [], [], [], [], [], [], [], [], [], [], [], [], [], [], [], [], [], [], [], [], [], []]) (H := []) zaf (by kernel_rfl) (by decide +kernel) (by kernel_rfl) ?_
    | refine zaa (U := [[], [], [], [], [], [], [], [], [], []]) (H := []) zaf (by kernel_rfl) (by decide +kernel) (by kernel_rfl) ?_
    | refine zaa (U := [[], [], [], [], [], [], [], [], [], [], [], [], [], [], [], []]) (H := []) zaf (by kernel_rfl) (by decide +kernel) (by kernel_rfl) ?_
    | refine zaa (U := [[], [], [], [], [], []]) (H := []) zaf (by kernel_rfl) (by decide +kernel) (by kernel_rfl) ?_
    | refine zaa (U := [[], [], [], [], [], [], [], [], [], [], [], [], [], [], [], [], [], [], [], [], [], [], [], []]) (H := []) zaf (by kernel_rfl) (by decide +kernel) (by kernel_rfl) ?_
    | refine zaa (U := [[], [], [], [], [], [], [], [], [], [], [], [], [], []]) (H := []) zaf (by kernel_rfl) (by decide +kernel) (by kernel_rfl) ?_)
    rw [← qa8]
    refine qce 2 (fun e env' h' => e = .normal ∧ h' = H1 ++ [vE (rnds sb u 64)] ∧ env' = (fun a : Nat → AV => [(0, .ref kd [0] 184), (1, .win kd [0, 1] 5 0 64 64), (4, .ref h.length [0] 185), (5, .ref (h.length + 1) [0] 185), (6, a 6), (7, a 7), (8, a 8), (9, a 9), (10, a 10), (11, a 11), (12, .ref H1.length [0] 167), (13, a 13), (14, a 14), (15, a 15), (16, a 16), (17, a 17), (18, a 18), (19, a 19), (23, a 23), (26, a 26), (27, a 27), (66, a 66), (112, a 112), (113, a 113), (203, a 203), (204, a 204)]) (lk env')) ?_ ?_
    · simp only [List.take_succ_cons, List.take_zero, qa8]
      refine qax (fun j a => [(0, .ref kd [0] 184), (1, .win kd [0, 1] 5 0 64 64), (4, .ref h.length [0] 185), (5, .ref (h.length + 1) [0] 185), (6, a 6), (7, a 7), (8, a 8), (9, a 9), (10, a 10), (11, a 11), (12, .ref H1.length [0] 167), (13, a 13), (14, a 14), (15, a 15), (16, a 16), (17, a 17), (18, a 18), (19, a 19), (23, a 23), (26, a 26), (27, a 27), (66, a 66), (112, .int .i64 j), (113, a 113), (203, a 203), (204, a 204)]) (fun j _ => H1 ++ [vE (rnds sb u j)]) (fun j => j ≤ 64) 64 (za3 rfl ⟨[], rfl⟩ (Nat.zero_le _)) ?_
      clear a
      rintro j a g hj
      refine ⟨hj, ?_⟩
      by_cases hj64 : j < 64
      · have hc : decide ((j : Int) < 64) = true := by simp; omega
        have hr : (0 ≤ (j : Int) ∧ (j : Int) < 64) = True := by simp; omega
        have hst : rnds sb u (j + 1) = rnd32 (rnds sb u j) (kTab.getD j 0) ((ybk sb 64).getD j 0) := rfl
        have gk : (kTab.map eN)[j]? = some (eN (kTab.getD j 0)) := ybi (by show j < 64; exact hj64)
        have gw : ((ybk sb 64).map eN)[j]? = some (eN ((ybk sb 64).getD j 0)) := ybi (by rw [ybp]; exact hj64)
        generalize rnds sb u j = w at hst
        generalize kTab.getD j 0 = kk at gk hst
        generalize (ybk sb 64).getD j 0 = ww at gw hst
        repeat' (first
    | simp (implicitDefEqProofs := false) only [push_cast, reduceIte, reduceCtorEq, Nat.reduceAdd, Nat.reduceSub, Nat.reduceEqDiff, Nat.reduceLT, Nat.reduceLeDiff, Nat.reduceBEq, Nat.reduceMul, Int.reduceLT, Int.reduceLE, Int.reduceEq, Int.reduceToNat, Int.reduceMul, Int.reduceNeg, Go.Proofs.Try.f151, hc, hr, gk, gw, b0, b1, l0, l1, ycg, cast8, wE, vE, V8.l, eN, List.length_map, Int.toNat_natCast, qae (show j < 9223372036854775807 by omega), zaj l0, yag l0, za4 l0, yaj l0, zaj l1, yag l1, za4 l1, yaj l1, yad, zae, qac, zad, yab, qad, sst, qab, yaa, qaa, List.replicate_succ, List.drop_zero]
    | refine Sp2.f ?_ ?_
    | refine Spl.f ?_ ?_ <;> intro hb
    | refine yac rfl (fun b hb => ?_)
    | refine zaa (U := [[], [], [], [], [], [], [], [], [], [], [], [], [], [], [], [], [], [], [], [], [], [], [], [], [], [], [], [], [], [], [], [], [], [], [], []]) (H := []) zaf (by kernel_rfl) (by decide +kernel) (by kernel_rfl) ?_
    | refine zaa (U := [[], [], [], [], [], [], [], [], [], []]) (H := []) zaf (by kernel_rfl) (by decide +kernel) (by kernel_rfl) ?_
    | refine zaa (U := [[], [], [], [], [], [], [], [], [], [], [], [], [], [], [], []]) (H := []) zaf (by kernel_rfl) (by decide +kernel) (by kernel_rfl) ?_
    | refine zaa (U := [[], [], [], [], [], []]) (H := []) zaf (by kernel_rfl) (by decide +kernel) (by kernel_rfl) ?_
    | refine zaa (U := [[], [], [], [], [], [], [], [], [], [], [], [], [], [], [], [], [], [], [], [], [], [], [], []]) (H := []) zaf (by kernel_rfl) (by decide +kernel) (by kernel_rfl) ?_
    | refine zaa (U := [[], [], [], [], [], [], [], [], [], [], [], [], [], []]) (H := []) zaf (by kernel_rfl) (by decide +kernel) (by kernel_rfl) ?_
    | refine zay (rot6 w.e) ?_
    | refine zay (rot11 w.e) ?_
    | refine zay (rot25 w.e) ?_
    | refine zay (rot2 w.a) ?_
    | refine zay (rot13 w.a) ?_
    | refine zay (rot22 w.a) ?_)
        refine za3 rfl ⟨[], ?_⟩ hj64
        show _ = H1 ++ [vE (rnds sb u (j + 1))]
        rw [hst]
        rfl
      · have hc : decide ((j : Int) < 64) = false := by simp; omega
        have h64 : j = 64 := by omega
        repeat' (first
    | simp (implicitDefEqProofs := false) only [push_cast, reduceIte, reduceCtorEq, Nat.reduceAdd, Nat.reduceSub, Nat.reduceEqDiff, Nat.reduceLT, Nat.reduceLeDiff, Nat.reduceBEq, Nat.reduceMul, Int.reduceLT, Int.reduceLE, Int.reduceEq, Int.reduceToNat, Int.reduceMul, Int.reduceNeg, Go.Proofs.Try.f151, hc]
    | refine Sp2.f ?_ ?_
    | refine Spl.f ?_ ?_ <;> intro hb
    | refine yac rfl (fun b hb => ?_)
    | refine zaa (U := [[], [], [], [], [], [], [], [], [], [], [], [], [], [], [], [], [], [], [], [], [], [], [], [], [], [], [], [], [], [], [], [], [], [], [], []]) (H := []) zaf (by kernel_rfl) (by decide +kernel) (by kernel_rfl) ?_
    | refine zaa (U := [[], [], [], [], [], [], [], [], [], []]) (H := []) zaf (by kernel_rfl) (by decide +kernel) (by kernel_rfl) ?_
    | refine zaa (U := [[], [], [], [], [], [], [], [], [], [], [], [], [], [], [], []]) (H := []) zaf (by kernel_rfl) (by decide +kernel) (by kernel_rfl) ?_
    | refine zaa (U := [[], [], [], [], [], []]) (H := []) zaf (by kernel_rfl) (by decide +kernel) (by kernel_rfl) ?_
    | refine zaa (U := [[], [], [], [], [], [], [], [], [], [], [], [], [], [], [], [], [], [], [], [], [], [], [], []]) (H := []) zaf (by kernel_rfl) (by decide +kernel) (by kernel_rfl) ?_
    | refine zaa (U := [[], [], [], [], [], [], [], [], [], [], [], [], [], []]) (H := []) zaf (by kernel_rfl) (by decide +kernel) (by kernel_rfl) ?_)
        first | exact ⟨rfl, by rw [h64], rfl⟩ | rw [h64]
    rintro _ env' _ ⟨rfl, rfl, henv⟩
    rw [henv]
    generalize lk env' = a
    clear henv env'
    have hblk2 : (blk u sb).l = List.zipWith zbe u.l (rnds sb u 64).l := rfl
    generalize rnds sb u 64 = z at hblk2
    simp only [List.drop_succ_cons, List.drop_zero]
    repeat' (first
    | simp (implicitDefEqProofs := false) only [push_cast, reduceIte, reduceCtorEq, Nat.reduceAdd, Nat.reduceSub, Nat.reduceEqDiff, Nat.reduceLT, Nat.reduceLeDiff, Nat.reduceBEq, Nat.reduceMul, Int.reduceLT, Int.reduceLE, Int.reduceEq, Int.reduceToNat, Int.reduceMul, Int.reduceNeg, Go.Proofs.Try.f151]
    | refine Sp2.f ?_ ?_
    | refine Spl.f ?_ ?_ <;> intro hb
    | refine yac rfl (fun b hb => ?_)
    | refine zaa (U := [[], [], [], [], [], [], [], [], [], [], [], [], [], [], [], [], [], [], [], [], [], [], [], [], [], [], [], [], [], [], [], [], [], [], [], []]) (H := []) zaf (by kernel_rfl) (by decide +kernel) (by kernel_rfl) ?_
    | refine zaa (U := [[], [], [], [], [], [], [], [], [], []]) (H := []) zaf (by kernel_rfl) (by decide +kernel) (by kernel_rfl) ?_
    | refine zaa (U := [[], [], [], [], [], [], [], [], [], [], [], [], [], [], [], []]) (H := []) zaf (by kernel_rfl) (by decide +kernel) (by kernel_rfl) ?_
    | refine zaa (U := [[], [], [], [], [], []]) (H := []) zaf (by kernel_rfl) (by decide +kernel) (by kernel_rfl) ?_
    | refine zaa (U := [[], [], [], [], [], [], [], [], [], [], [], [], [], [], [], [], [], [], [], [], [], [], [], []]) (H := []) zaf (by kernel_rfl) (by decide +kernel) (by kernel_rfl) ?_
    | refine zaa (U := [[], [], [], [], [], [], [], [], [], [], [], [], [], []]) (H := []) zaf (by kernel_rfl) (by decide +kernel) (by kernel_rfl) ?_)
    rw [← qa8]
    refine qce 2 (fun e env' h' => e = .normal ∧ h' = H1.set kd (dgL (mix u.l z.l 8) rs c) ++ [vE z] ∧ env' = (fun a : Nat → AV => [(0, .ref kd [0] 184), (1, .win kd [0, 1] 5 0 64 64), (4, .ref h.length [0] 185), (5, .ref (h.length + 1) [0] 185), (6, a 6), (7, a 7), (8, a 8), (9, a 9), (10, a 10), (11, a 11), (12, a 12), (13, a 13), (14, a 14), (15, a 15), (16, a 16), (17, a 17), (18, a 18), (19, a 19), (23, a 23), (26, a 26), (27, a 27), (66, a 66), (112, a 112), (113, a 113), (203, a 203), (204, a 204)]) (lk env')) ?_ ?_
    · simp only [List.take_succ_cons, List.take_zero, qa8]
      refine qax (fun j a => [(0, .ref kd [0] 184), (1, .win kd [0, 1] 5 0 64 64), (4, .ref h.length [0] 185), (5, .ref (h.length + 1) [0] 185), (6, a 6), (7, a 7), (8, a 8), (9, a 9), (10, a 10), (11, a 11), (12, .ref H1.length [0] 167), (13, a 13), (14, a 14), (15, a 15), (16, a 16), (17, a 17), (18, a 18), (19, a 19), (23, a 23), (26, a 26), (27, a 27), (66, a 66), (112, a 112), (113, a 113), (203, .int .i64 j), (204, a 204)]) (fun j _ => H1.set kd (dgL (mix u.l z.l j) rs c) ++ [vE z]) (fun j => j ≤ 8) 8 (za3 rfl ⟨[], by show _ = H1.set kd (dgL (mix u.l z.l 0) rs c) ++ [vE z]; rw [show mix u.l z.l 0 = u.l from rfl, ybl bk]⟩ (Nat.zero_le _)) ?_
      clear a
      rintro j a g hj
      refine ⟨hj, ?_⟩
      by_cases hj8 : j < 8
      · have hc : decide ((j : Int) < 8) = true := by simp; omega
        have hr : (0 ≤ (j : Int) ∧ (j : Int) < 8) = True := by simp; omega
        have gu := ybi (l := mix u.l z.l j) (i := j) (by rw [mix_len (show u.l.length = z.l.length from rfl) (show j ≤ u.l.length from hj)]; exact hj8)
        have gz := ybi (l := z.l) (i := j) hj8
        have hset := mix_set (a := u.l) (b := z.l) (j := j) rfl hj8
        generalize hml : (mix u.l z.l j).map eN = ml at gu hset
        generalize hzl : z.l.map eN = zl at gz
        generalize (mix u.l z.l j).getD j 0 = x1 at gu hset
        generalize z.l.getD j 0 = x2 at gz hset
        have hv : vE z = ⟨167, [.agg 167 zl], .own⟩ := by rw [vE, hzl]
        have hd : dgL (mix u.l z.l j) rs c = ⟨184, [.agg 184 [.agg 167 ml, .agg 182 (rs.map eB), .int .u64 c]], .own⟩ := by rw [dgL, hml]
        rw [hv, hd]
        repeat' (first
    | simp (implicitDefEqProofs := false) only [push_cast, reduceIte, reduceCtorEq, Nat.reduceAdd, Nat.reduceSub, Nat.reduceEqDiff, Nat.reduceLT, Nat.reduceLeDiff, Nat.reduceBEq, Nat.reduceMul, Int.reduceLT, Int.reduceLE, Int.reduceEq, Int.reduceToNat, Int.reduceMul, Int.reduceNeg, Go.Proofs.Try.f151, hc, hr, gu, gz, lk1, cast8, eN, List.length_map, Int.toNat_natCast, qae (show j < 9223372036854775807 by omega), zaj lk1, yag lk1, za4 lk1, yaj lk1, yad, zae, qac, zad, yab, qad, sst, qab, yaa, qaa, List.replicate_succ, List.drop_zero]
    | refine Sp2.f ?_ ?_
    | refine Spl.f ?_ ?_ <;> intro hb
    | refine yac rfl (fun b hb => ?_)
    | refine zaa (U := [[], [], [], [], [], [], [], [], [], [], [], [], [], [], [], [], [], [], [], [], [], [], [], [], [], [], [], [], [], [], [], [], [], [], [], []]) (H := []) zaf (by kernel_rfl) (by decide +kernel) (by kernel_rfl) ?_
    | refine zaa (U := [[], [], [], [], [], [], [], [], [], []]) (H := []) zaf (by kernel_rfl) (by decide +kernel) (by kernel_rfl) ?_
    | refine zaa (U := [[], [], [], [], [], [], [], [], [], [], [], [], [], [], [], []]) (H := []) zaf (by kernel_rfl) (by decide +kernel) (by kernel_rfl) ?_
    | refine zaa (U := [[], [], [], [], [], []]) (H := []) zaf (by kernel_rfl) (by decide +kernel) (by kernel_rfl) ?_
    | refine zaa (U := [[], [], [], [], [], [], [], [], [], [], [], [], [], [], [], [], [], [], [], [], [], [], [], []]) (H := []) zaf (by kernel_rfl) (by decide +kernel) (by kernel_rfl) ?_
    | refine zaa (U := [[], [], [], [], [], [], [], [], [], [], [], [], [], []]) (H := []) zaf (by kernel_rfl) (by decide +kernel) (by kernel_rfl) ?_)
        refine za3 rfl ⟨[], ?_⟩ hj8
        show _ = H1.set kd (dgL (mix u.l z.l (j + 1)) rs c) ++ _
        rw [dgL, ← hset]
        rfl
      · have hc : decide ((j : Int) < 8) = false := by simp; omega
        have h8 : j = 8 := by omega
        repeat' (first
    | simp (implicitDefEqProofs := false) only [push_cast, reduceIte, reduceCtorEq, Nat.reduceAdd, Nat.reduceSub, Nat.reduceEqDiff, Nat.reduceLT, Nat.reduceLeDiff, Nat.reduceBEq, Nat.reduceMul, Int.reduceLT, Int.reduceLE, Int.reduceEq, Int.reduceToNat, Int.reduceMul, Int.reduceNeg, Go.Proofs.Try.f151, hc]
    | refine Sp2.f ?_ ?_
    | refine Spl.f ?_ ?_ <;> intro hb
    | refine yac rfl (fun b hb => ?_)
    | refine zaa (U := [[], [], [], [], [], [], [], [], [], [], [], [], [], [], [], [], [], [], [], [], [], [], [], [], [], [], [], [], [], [], [], [], [], [], [], []]) (H := []) zaf (by kernel_rfl) (by decide +kernel) (by kernel_rfl) ?_
    | refine zaa (U := [[], [], [], [], [], [], [], [], [], []]) (H := []) zaf (by kernel_rfl) (by decide +kernel) (by kernel_rfl) ?_
    | refine zaa (U := [[], [], [], [], [], [], [], [], [], [], [], [], [], [], [], []]) (H := []) zaf (by kernel_rfl) (by decide +kernel) (by kernel_rfl) ?_
    | refine zaa (U := [[], [], [], [], [], []]) (H := []) zaf (by kernel_rfl) (by decide +kernel) (by kernel_rfl) ?_
    | refine zaa (U := [[], [], [], [], [], [], [], [], [], [], [], [], [], [], [], [], [], [], [], [], [], [], [], []]) (H := []) zaf (by kernel_rfl) (by decide +kernel) (by kernel_rfl) ?_
    | refine zaa (U := [[], [], [], [], [], [], [], [], [], [], [], [], [], []]) (H := []) zaf (by kernel_rfl) (by decide +kernel) (by kernel_rfl) ?_)
        first | exact ⟨rfl, by rw [h8], rfl⟩ | rw [h8]
    rintro _ env' _ ⟨rfl, rfl, henv⟩
    rw [henv]
    generalize lk env' = a
    clear henv env'
    simp only [List.drop_succ_cons, List.drop_zero]
    repeat' (first
    | simp (implicitDefEqProofs := false) only [push_cast, reduceIte, reduceCtorEq, Nat.reduceAdd, Nat.reduceSub, Nat.reduceEqDiff, Nat.reduceLT, Nat.reduceLeDiff, Nat.reduceBEq, Nat.reduceMul, Int.reduceLT, Int.reduceLE, Int.reduceEq, Int.reduceToNat, Int.reduceMul, Int.reduceNeg, Go.Proofs.Try.f151, ycg, max64, Int.toNat_natCast, yad, zae, qac, zad, yab, qad, sst, qab, yaa, qaa, List.replicate_succ, List.drop_zero]
    | refine Sp2.f ?_ ?_
    | refine Spl.f ?_ ?_ <;> intro hb
    | refine yac rfl (fun b hb => ?_)
    | refine zaa (U := [[], [], [], [], [], [], [], [], [], [], [], [], [], [], [], [], [], [], [], [], [], [], [], [], [], [], [], [], [], [], [], [], [], [], [], []]) (H := []) zaf (by kernel_rfl) (by decide +kernel) (by kernel_rfl) ?_
    | refine zaa (U := [[], [], [], [], [], [], [], [], [], []]) (H := []) zaf (by kernel_rfl) (by decide +kernel) (by kernel_rfl) ?_
    | refine zaa (U := [[], [], [], [], [], [], [], [], [], [], [], [], [], [], [], []]) (H := []) zaf (by kernel_rfl) (by decide +kernel) (by kernel_rfl) ?_
    | refine zaa (U := [[], [], [], [], [], []]) (H := []) zaf (by kernel_rfl) (by decide +kernel) (by kernel_rfl) ?_
    | refine zaa (U := [[], [], [], [], [], [], [], [], [], [], [], [], [], [], [], [], [], [], [], [], [], [], [], []]) (H := []) zaf (by kernel_rfl) (by decide +kernel) (by kernel_rfl) ?_
    | refine zaa (U := [[], [], [], [], [], [], [], [], [], [], [], [], [], []]) (H := []) zaf (by kernel_rfl) (by decide +kernel) (by kernel_rfl) ?_)
    have hb1 : qbw v rs 1 = blk u sb := hblk
    refine ⟨?_, ?_, ⟨ybk sb 64, ybp sb 64, ?_⟩⟩
    · rw [List.take_append_of_le_length (by simp; omega), List.take_set, bT, List.set_set, hb1, hblk2]; rfl
    · rw [yad (by simpa using l0), qac (by omega)]; exact b0
    · rw [yad (by simpa using l1), qac (by omega)]; exact b1
  · obtain rfl : i = 1 := by omega
    simp only [Nat.mul_one, Nat.sub_self]
    repeat' (first
    | simp (implicitDefEqProofs := false) only [push_cast, reduceIte, reduceCtorEq, Nat.reduceAdd, Nat.reduceSub, Nat.reduceEqDiff, Nat.reduceLT, Nat.reduceLeDiff, Nat.reduceBEq, Nat.reduceMul, Int.reduceLT, Int.reduceLE, Int.reduceEq, Int.reduceToNat, Int.reduceMul, Int.reduceNeg, Go.Proofs.Try.f151, yad, zae, qac, zad, yab, qad, sst, qab, yaa, qaa, List.replicate_succ, List.drop_zero]
    | refine Sp2.f ?_ ?_
    | refine Spl.f ?_ ?_ <;> intro hb
    | refine yac rfl (fun b hb => ?_)
    | refine zaa (U := [[], [], [], [], [], [], [], [], [], [], [], [], [], [], [], [], [], [], [], [], [], [], [], [], [], [], [], [], [], [], [], [], [], [], [], []]) (H := []) zaf (by kernel_rfl) (by decide +kernel) (by kernel_rfl) ?_
    | refine zaa (U := [[], [], [], [], [], [], [], [], [], []]) (H := []) zaf (by kernel_rfl) (by decide +kernel) (by kernel_rfl) ?_
    | refine zaa (U := [[], [], [], [], [], [], [], [], [], [], [], [], [], [], [], []]) (H := []) zaf (by kernel_rfl) (by decide +kernel) (by kernel_rfl) ?_
    | refine zaa (U := [[], [], [], [], [], []]) (H := []) zaf (by kernel_rfl) (by decide +kernel) (by kernel_rfl) ?_
    | refine zaa (U := [[], [], [], [], [], [], [], [], [], [], [], [], [], [], [], [], [], [], [], [], [], [], [], []]) (H := []) zaf (by kernel_rfl) (by decide +kernel) (by kernel_rfl) ?_
    | refine zaa (U := [[], [], [], [], [], [], [], [], [], [], [], [], [], []]) (H := []) zaf (by kernel_rfl) (by decide +kernel) (by kernel_rfl) ?_)
    exact ⟨hT, rfl⟩
end Go.Abs
