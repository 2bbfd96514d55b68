/- Sr: a part of the proofs about the tuple space and its bytes. -/
import Derived.Test.YtilfbkhbjkjicaaSb
import Derived.Test.YtilfbkhbjkjicaaGv
import Derived.Test.YtilfbkhbjkjicaaCi
set_option linter.all false
set_option maxRecDepth 100000
set_option maxHeartbeats 0
namespace Go.Abs
open Go
open Go.Proofs.Try (prog)
theorem ycc (x : Int) (n : Nat) (h32 : n ≤ 32) : Fn prog 153 [.int .u32 x, .int .u64 n] (.int .u32 (ybh x (32 - n))) := by
  refine run_153 rfl fun h => ?_
  have h2 : IntKind.u64.wrap (32 - (n : Int)) = ((32 - n : Nat) : Int) := by rw [zak]; omega
  have h3 : (((32 - n : Nat) : Int) < 0) = False := by simp
  have h1 : ((n : Int) < 0) = False := by simp
  have hmn : 32 - (32 - n) = n := by omega
  rw [ybh, hmn, or32_comm]
  generalize hm : 32 - n = m at h2 h3
  repeat' (first
    | simp (implicitDefEqProofs := false) only [push_cast, reduceIte, reduceCtorEq, Nat.reduceAdd, Nat.reduceSub, Nat.reduceEqDiff, Nat.reduceLT, Nat.reduceLeDiff, Nat.reduceBEq, Nat.reduceMul, Int.reduceLT, Int.reduceLE, Int.reduceEq, Int.reduceToNat, Int.reduceMul, Int.reduceNeg, Go.Proofs.Try.f153, h1, h2, h3, Int.toNat_natCast]
    | refine Sp2.f ?_ ?_
    | refine Spl.f ?_ ?_ <;> intro hb
    | refine yac rfl (fun b hb => ?_))
  simp only [or32, shl32, qc4]
theorem tn7 (x : Int) : Fn prog 153 [.int .u32 x, .int .u64 7] (.int .u32 (ybh x 25)) := ycc x 7 (by omega)
theorem tn18 (x : Int) : Fn prog 153 [.int .u32 x, .int .u64 18] (.int .u32 (ybh x 14)) := ycc x 18 (by omega)
theorem tn17 (x : Int) : Fn prog 153 [.int .u32 x, .int .u64 17] (.int .u32 (ybh x 15)) := ycc x 17 (by omega)
theorem tn19 (x : Int) : Fn prog 153 [.int .u32 x, .int .u64 19] (.int .u32 (ybh x 13)) := ycc x 19 (by omega)
theorem tn6 (x : Int) : Fn prog 153 [.int .u32 x, .int .u64 6] (.int .u32 (ybh x 26)) := ycc x 6 (by omega)
theorem tn11 (x : Int) : Fn prog 153 [.int .u32 x, .int .u64 11] (.int .u32 (ybh x 21)) := ycc x 11 (by omega)
theorem tn25 (x : Int) : Fn prog 153 [.int .u32 x, .int .u64 25] (.int .u32 (ybh x 7)) := ycc x 25 (by omega)
theorem tn2 (x : Int) : Fn prog 153 [.int .u32 x, .int .u64 2] (.int .u32 (ybh x 30)) := ycc x 2 (by omega)
theorem tn13 (x : Int) : Fn prog 153 [.int .u32 x, .int .u64 13] (.int .u32 (ybh x 19)) := ycc x 13 (by omega)
theorem tn22 (x : Int) : Fn prog 153 [.int .u32 x, .int .u64 22] (.int .u32 (ybh x 10)) := ycc x 22 (by omega)
def z8E : Entry := ⟨167, [.agg 167 ((List.replicate 8 (0 : Int)).map eN)], .own⟩
def lE (l : List Int) : Entry := ⟨167, [.agg 167 (l.map eN)], .own⟩
theorem kAgg : AV.agg 185 [.int .u32 1116352408, .int .u32 1899447441, .int .u32 3049323471, .int .u32 3921009573, .int .u32 961987163, .int .u32 1508970993, .int .u32 2453635748, .int .u32 2870763221, .int .u32 3624381080, .int .u32 310598401, .int .u32 607225278, .int .u32 1426881987, .int .u32 1925078388, .int .u32 2162078206, .int .u32 2614888103, .int .u32 3248222580, .int .u32 3835390401, .int .u32 4022224774, .int .u32 264347078, .int .u32 604807628, .int .u32 770255983, .int .u32 1249150122, .int .u32 1555081692, .int .u32 1996064986, .int .u32 2554220882, .int .u32 2821834349, .int .u32 2952996808, .int .u32 3210313671, .int .u32 3336571891, .int .u32 3584528711, .int .u32 113926993, .int .u32 338241895, .int .u32 666307205, .int .u32 773529912, .int .u32 1294757372, .int .u32 1396182291, .int .u32 1695183700, .int .u32 1986661051, .int .u32 2177026350, .int .u32 2456956037, .int .u32 2730485921, .int .u32 2820302411, .int .u32 3259730800, .int .u32 3345764771, .int .u32 3516065817, .int .u32 3600352804, .int .u32 4094571909, .int .u32 275423344, .int .u32 430227734, .int .u32 506948616, .int .u32 659060556, .int .u32 883997877, .int .u32 958139571, .int .u32 1322822218, .int .u32 1537002063, .int .u32 1747873779, .int .u32 1955562222, .int .u32 2024104815, .int .u32 2227730452, .int .u32 2361852424, .int .u32 2428436474, .int .u32 2756734187, .int .u32 3204031479, .int .u32 3329325298] = .agg 185 (kTab.map eN) := rfl
theorem c_refblock0 (v : V8) (bs sb : List UInt8) (p : Nat) (hp : p + 64 ≤ bs.length) (hl : bs.length ≤ 4294967296) (hsb : ∀ k, k < 64 → bs.getD (p + k) 0 = sb.getD k 0) (w0 : List Int) (hw0 : w0 = List.replicate 64 (0 : Int)) (hwl : w0.length = 64) (K : List Int) (hK : AV.agg 185 [.int .u32 1116352408, .int .u32 1899447441, .int .u32 3049323471, .int .u32 3921009573, .int .u32 961987163, .int .u32 1508970993, .int .u32 2453635748, .int .u32 2870763221, .int .u32 3624381080, .int .u32 310598401, .int .u32 607225278, .int .u32 1426881987, .int .u32 1925078388, .int .u32 2162078206, .int .u32 2614888103, .int .u32 3248222580, .int .u32 3835390401, .int .u32 4022224774, .int .u32 264347078, .int .u32 604807628, .int .u32 770255983, .int .u32 1249150122, .int .u32 1555081692, .int .u32 1996064986, .int .u32 2554220882, .int .u32 2821834349, .int .u32 2952996808, .int .u32 3210313671, .int .u32 3336571891, .int .u32 3584528711, .int .u32 113926993, .int .u32 338241895, .int .u32 666307205, .int .u32 773529912, .int .u32 1294757372, .int .u32 1396182291, .int .u32 1695183700, .int .u32 1986661051, .int .u32 2177026350, .int .u32 2456956037, .int .u32 2730485921, .int .u32 2820302411, .int .u32 3259730800, .int .u32 3345764771, .int .u32 3516065817, .int .u32 3600352804, .int .u32 4094571909, .int .u32 275423344, .int .u32 430227734, .int .u32 506948616, .int .u32 659060556, .int .u32 883997877, .int .u32 958139571, .int .u32 1322822218, .int .u32 1537002063, .int .u32 1747873779, .int .u32 1955562222, .int .u32 2024104815, .int .u32 2227730452, .int .u32 2361852424, .int .u32 2428436474, .int .u32 2756734187, .int .u32 3204031479, .int .u32 3329325298] = .agg 185 (K.map eN)) (hKl : K.length = 64) (hK2 : K = kTab) : Fn prog 127 [.agg 167 (v.l.map eN), eBs bs, .int .i64 p] (.agg 167 ((blk v sb).l.map eN)) := by
  refine run_127 rfl fun h => ?_
  repeat' (first
    | simp (implicitDefEqProofs := false) only [push_cast, reduceIte, reduceCtorEq, Nat.reduceAdd, Nat.reduceSub, Nat.reduceEqDiff, Nat.reduceLT, Nat.reduceLeDiff, Nat.reduceBEq, Nat.reduceMul, Int.reduceLT, Int.reduceLE, Int.reduceEq, Int.reduceToNat, Int.reduceMul, Int.reduceNeg, Go.Proofs.Try.f127, hK, yad, zae, qac, zad, yab, qad, sst, qab, yaa, qaa, List.replicate_succ, List.drop_zero]
    | refine Sp2.f ?_ ?_
    | refine Spl.f ?_ ?_ <;> intro hb
    | refine yac rfl (fun b hb => ?_)
    | refine zaa (U := [[], [], [], [], [], [], [], [], [], [], [], [], [], [], [], [], [], [], [], [], [], [], [], [], [], [], [], [], [], [], [], [], [], [], [], [], [], [], [], [], [], [], [], []]) (H := []) zaf (by kernel_rfl) (by decide +kernel) (by kernel_rfl) ?_
    | refine zaa (U := [[], [], [], [], [], [], [], [], [], []]) (H := []) zaf (by kernel_rfl) (by decide +kernel) (by kernel_rfl) ?_
    | refine zaa (U := [[], [], [], [], [], [], [4], [], [4], [], [], [], [], [], [], [], [], [6, 8], [], [], [4, 17], [], [4, 17], [], [], [], [], [], [], []]) (H := []) zaf (by kernel_rfl) (by decide +kernel) (by kernel_rfl) ?_
    | refine zaa (U := [[], [], [], [], [], []]) (H := []) zaf (by kernel_rfl) (by decide +kernel) (by kernel_rfl) ?_
    | refine zaa (U := [[], [], [], [1], [], [1], [], [], [1], [], [], [], [], [3, 5, 8], [], [], [], [], [3, 5, 8], [], [], [], [], [], [3, 5, 8], [], [], [], [3, 5, 8], [], []]) (H := []) zaf (by kernel_rfl) (by decide +kernel) (by kernel_rfl) ?_
    | refine zaa (U := [[], [], [], [], [], [], [], [], [], [], [1, 3, 6], [], [], [], [1, 3, 6], [], [], [], [1, 3, 6], [], [1, 3, 6], [], [], [], []]) (H := []) zaf (by kernel_rfl) (by decide +kernel) (by kernel_rfl) ?_
    | refine zaa (U := [[], [], [], [], [], [], [], [], [], []]) (H := []) zaf (by kernel_rfl) (by decide +kernel) (by kernel_rfl) ?_)
  refine qau (fun j env' H => j ≤ 16 ∧ H = h ++ [vE v, z8E, wE K, wE (wAt sb w0 j)] ∧ env' = (fun a : Nat → AV => [(0, .agg 167 (v.l.map eN)), (1, eBs bs), (2, .int .i64 p), (3, .ref h.length [0] 167), (6, .ref (h.length + 1) [0] 167), (7, .ref (h.length + 2) [0] 185), (8, .ref (h.length + 3) [0] 185), (9, .int .i64 j), (10, a 10), (11, a 11), (12, a 12), (13, a 13), (14, a 14), (15, a 15), (16, a 16), (17, a 17), (18, a 18), (19, a 19), (22, a 22), (69, a 69), (111, a 111), (191, a 191)]) (lk env')) 16 ⟨Nat.zero_le _, by rw [hw0]; rfl, rfl⟩ ?_
  clear hw0
  rintro j env H ⟨hj, rfl, henv⟩
  refine ⟨hj, ?_⟩
  rw [henv]
  generalize lk env = a
  clear henv env
  by_cases hj16 : j < 16
  · have hc : decide ((j : Int) < 16) = true := by simp; omega
    obtain ⟨q, hq⟩ : ∃ q, q = 4 * j := ⟨_, rfl⟩
    have m0 : IntKind.wrap .i64 (4 * (j : Int)) = (q : Int) := qap q (by omega) (by omega)
    obtain ⟨p0, hp0⟩ : ∃ x, x = p + q := ⟨_, rfl⟩
    have mp : IntKind.wrap .i64 ((p : Int) + (q : Int)) = (p0 : Int) := qap p0 (by omega) (by omega)
    obtain ⟨p1, hp1⟩ : ∃ x, x = p0 + 1 := ⟨_, rfl⟩
    obtain ⟨p2, hp2⟩ : ∃ x, x = p0 + 2 := ⟨_, rfl⟩
    obtain ⟨p3, hp3⟩ : ∃ x, x = p0 + 3 := ⟨_, rfl⟩
    have m1 : IntKind.wrap .i64 ((p0 : Int) + 1) = (p1 : Int) := qap p1 (by omega) (by omega)
    have m2 : IntKind.wrap .i64 ((p0 : Int) + 2) = (p2 : Int) := qap p2 (by omega) (by omega)
    have m3 : IntKind.wrap .i64 ((p0 : Int) + 3) = (p3 : Int) := qap p3 (by omega) (by omega)
    have c0 := yar (show p0 < bs.length by omega)
    have c1 := yar (show p1 < bs.length by omega)
    have c2 := yar (show p2 < bs.length by omega)
    have c3 := yar (show p3 < bs.length by omega)
    have d0 := zdz (show p0 < bs.length by omega)
    have d1 := zdz (show p1 < bs.length by omega)
    have d2 := zdz (show p2 < bs.length by omega)
    have d3 := zdz (show p3 < bs.length by omega)
    have hr : (0 ≤ (j : Int) ∧ (j : Int) < 64) = True := by simp; omega
    have hgj : ∃ y, ((wAt sb w0 j).map eN)[j]? = some y := ⟨_, List.getElem?_eq_getElem (by simp only [List.length_map, yc9 sb w0 j hwl (by omega)]; omega)⟩
    obtain ⟨y, hgj⟩ := hgj
    have hset := qdp sb w0 (j := j) hwl (by omega)
    have hnx : ydf sb j (ybk sb j) = be32 (bs.getD p0 0) (bs.getD p1 0) (bs.getD p2 0) (bs.getD p3 0) := by
      rw [ydf, if_pos hj16, ← hsb _ (by omega), ← hsb _ (by omega), ← hsb _ (by omega), ← hsb _ (by omega)]
      rw [show p + 4 * j = p0 by omega, show p + (4 * j + 1) = p1 by omega, show p + (4 * j + 2) = p2 by omega, show p + (4 * j + 3) = p3 by omega]
    rw [hnx] at hset
    repeat' (first
    | simp (implicitDefEqProofs := false) only [push_cast, reduceIte, reduceCtorEq, Nat.reduceAdd, Nat.reduceSub, Nat.reduceEqDiff, Nat.reduceLT, Nat.reduceLeDiff, Nat.reduceBEq, Nat.reduceMul, Int.reduceLT, Int.reduceLE, Int.reduceEq, Int.reduceToNat, Int.reduceMul, Int.reduceNeg, Go.Proofs.Try.f127, hc, m0, mp, m1, m2, m3, c0, c1, c2, c3, d0, d1, d2, d3, hr, hgj, ycg, wE, eBs, eB, List.length_map, Int.toNat_natCast, qae (show j < 9223372036854775807 by omega), yad, zae, qac, zad, yab, qad, sst, qab, yaa, qaa, List.replicate_succ, List.drop_zero]
    | refine Sp2.f ?_ ?_
    | refine Spl.f ?_ ?_ <;> intro hb
    | refine yac rfl (fun b hb => ?_)
    | refine zaa (U := [[], [], [], [], [], [], [], [], [], [], [], [], [], [], [], [], [], [], [], [], [], [], [], [], [], [], [], [], [], [], [], [], [], [], [], [], [], [], [], [], [], [], [], []]) (H := []) zaf (by kernel_rfl) (by decide +kernel) (by kernel_rfl) ?_
    | refine zaa (U := [[], [], [], [], [], [], [], [], [], []]) (H := []) zaf (by kernel_rfl) (by decide +kernel) (by kernel_rfl) ?_
    | refine zaa (U := [[], [], [], [], [], [], [4], [], [4], [], [], [], [], [], [], [], [], [6, 8], [], [], [4, 17], [], [4, 17], [], [], [], [], [], [], []]) (H := []) zaf (by kernel_rfl) (by decide +kernel) (by kernel_rfl) ?_
    | refine zaa (U := [[], [], [], [], [], []]) (H := []) zaf (by kernel_rfl) (by decide +kernel) (by kernel_rfl) ?_
    | refine zaa (U := [[], [], [], [1], [], [1], [], [], [1], [], [], [], [], [3, 5, 8], [], [], [], [], [3, 5, 8], [], [], [], [], [], [3, 5, 8], [], [], [], [3, 5, 8], [], []]) (H := []) zaf (by kernel_rfl) (by decide +kernel) (by kernel_rfl) ?_
    | refine zaa (U := [[], [], [], [], [], [], [], [], [], [], [1, 3, 6], [], [], [], [1, 3, 6], [], [], [], [1, 3, 6], [], [1, 3, 6], [], [], [], []]) (H := []) zaf (by kernel_rfl) (by decide +kernel) (by kernel_rfl) ?_
    | refine zaa (U := [[], [], [], [], [], [], [], [], [], []]) (H := []) zaf (by kernel_rfl) (by decide +kernel) (by kernel_rfl) ?_)
    refine ⟨by omega, ?_⟩
    rw [← hset]
    rfl
  · have hc : decide ((j : Int) < 16) = false := by simp; omega
    have h16 : j = 16 := by omega
    repeat' (first
    | simp (implicitDefEqProofs := false) only [push_cast, reduceIte, reduceCtorEq, Nat.reduceAdd, Nat.reduceSub, Nat.reduceEqDiff, Nat.reduceLT, Nat.reduceLeDiff, Nat.reduceBEq, Nat.reduceMul, Int.reduceLT, Int.reduceLE, Int.reduceEq, Int.reduceToNat, Int.reduceMul, Int.reduceNeg, Go.Proofs.Try.f127, hc, yad, zae, qac, zad, yab, qad, sst, qab, yaa, qaa, List.replicate_succ, List.drop_zero]
    | refine Sp2.f ?_ ?_
    | refine Spl.f ?_ ?_ <;> intro hb
    | refine yac rfl (fun b hb => ?_)
    | refine zaa (U := [[], [], [], [], [], [], [], [], [], [], [], [], [], [], [], [], [], [], [], [], [], [], [], [], [], [], [], [], [], [], [], [], [], [], [], [], [], [], [], [], [], [], [], []]) (H := []) zaf (by kernel_rfl) (by decide +kernel) (by kernel_rfl) ?_
    | refine zaa (U := [[], [], [], [], [], [], [], [], [], []]) (H := []) zaf (by kernel_rfl) (by decide +kernel) (by kernel_rfl) ?_
    | refine zaa (U := [[], [], [], [], [], [], [4], [], [4], [], [], [], [], [], [], [], [], [6, 8], [], [], [4, 17], [], [4, 17], [], [], [], [], [], [], []]) (H := []) zaf (by kernel_rfl) (by decide +kernel) (by kernel_rfl) ?_
    | refine zaa (U := [[], [], [], [], [], []]) (H := []) zaf (by kernel_rfl) (by decide +kernel) (by kernel_rfl) ?_
    | refine zaa (U := [[], [], [], [1], [], [1], [], [], [1], [], [], [], [], [3, 5, 8], [], [], [], [], [3, 5, 8], [], [], [], [], [], [3, 5, 8], [], [], [], [3, 5, 8], [], []]) (H := []) zaf (by kernel_rfl) (by decide +kernel) (by kernel_rfl) ?_
    | refine zaa (U := [[], [], [], [], [], [], [], [], [], [], [1, 3, 6], [], [], [], [1, 3, 6], [], [], [], [1, 3, 6], [], [1, 3, 6], [], [], [], []]) (H := []) zaf (by kernel_rfl) (by decide +kernel) (by kernel_rfl) ?_
    | refine zaa (U := [[], [], [], [], [], [], [], [], [], []]) (H := []) zaf (by kernel_rfl) (by decide +kernel) (by kernel_rfl) ?_)
    refine qau (fun i env' H => i ≤ 48 ∧ H = h ++ [vE v, z8E, wE K, wE (wAt sb w0 (16 + i))] ∧ env' = (fun a : Nat → AV => [(0, .agg 167 (v.l.map eN)), (1, eBs bs), (2, .int .i64 p), (3, .ref h.length [0] 167), (6, .ref (h.length + 1) [0] 167), (7, .ref (h.length + 2) [0] 185), (8, .ref (h.length + 3) [0] 185), (9, a 9), (10, .int .i64 ((16 + i : Nat) : Int)), (11, a 11), (12, a 12), (13, a 13), (14, a 14), (15, a 15), (16, a 16), (17, a 17), (18, a 18), (19, a 19), (22, a 22), (69, a 69), (111, a 111), (191, a 191)]) (lk env')) 48 ⟨Nat.zero_le _, by rw [h16], rfl⟩ ?_
    clear a hc h16 hj hj16 j
    rintro i2 env H ⟨hi2, rfl, henv⟩
    refine ⟨hi2, ?_⟩
    rw [henv]
    generalize lk env = a
    clear henv env
    obtain ⟨j, hj⟩ : ∃ j, j = 16 + i2 := ⟨_, rfl⟩
    have hj1 : 16 + (i2 + 1) = j + 1 := by omega
    rw [hj1, ← hj]
    by_cases hj64 : j < 64
    · have hc : decide ((j : Int) < 64) = true := by simp; omega
      obtain ⟨p15, q15⟩ : ∃ x, x = j - 15 := ⟨_, rfl⟩
      obtain ⟨p2, q2⟩ : ∃ x, x = j - 2 := ⟨_, rfl⟩
      obtain ⟨p16, q16⟩ : ∃ x, x = j - 16 := ⟨_, rfl⟩
      obtain ⟨p7, q7⟩ : ∃ x, x = j - 7 := ⟨_, rfl⟩
      have s15 : IntKind.wrap .i64 ((j : Int) - 15) = (p15 : Int) := qap p15 (by omega) (by omega)
      have s2 : IntKind.wrap .i64 ((j : Int) - 2) = (p2 : Int) := qap p2 (by omega) (by omega)
      have s16 : IntKind.wrap .i64 ((j : Int) - 16) = (p16 : Int) := qap p16 (by omega) (by omega)
      have s7 : IntKind.wrap .i64 ((j : Int) - 7) = (p7 : Int) := qap p7 (by omega) (by omega)
      have r15 : (0 ≤ (p15 : Int) ∧ (p15 : Int) < 64) = True := by simp; omega
      have r2 : (0 ≤ (p2 : Int) ∧ (p2 : Int) < 64) = True := by simp; omega
      have r16 : (0 ≤ (p16 : Int) ∧ (p16 : Int) < 64) = True := by simp; omega
      have r7 : (0 ≤ (p7 : Int) ∧ (p7 : Int) < 64) = True := by simp; omega
      have hr : (0 ≤ (j : Int) ∧ (j : Int) < 64) = True := by simp; omega
      have g15 := ybx sb w0 (show p15 < j by omega)
      have g2 := ybx sb w0 (show p2 < j by omega)
      have g16 := ybx sb w0 (show p16 < j by omega)
      have g7 := ybx sb w0 (show p7 < j by omega)
      have hgj : ∃ y, ((wAt sb w0 j).map eN)[j]? = some y := ⟨_, List.getElem?_eq_getElem (by simp only [List.length_map, yc9 sb w0 j hwl (by omega)]; omega)⟩
      obtain ⟨y, hgj⟩ := hgj
      have hset := qdp sb w0 (j := j) hwl hj64
      have hnx : ydf sb j (ybk sb j) = zbe (zbe (zbe ((ybk sb j).getD p16 0) (sg0 ((ybk sb j).getD p15 0))) ((ybk sb j).getD p7 0)) (sg1 ((ybk sb j).getD p2 0)) := by
        rw [ydf, if_neg (by omega), q15, q2, q16, q7]
      rw [hnx] at hset
      generalize (ybk sb j).getD p15 0 = x15 at g15 hset
      generalize (ybk sb j).getD p2 0 = x2 at g2 hset
      generalize (ybk sb j).getD p16 0 = x16 at g16 hset
      generalize (ybk sb j).getD p7 0 = x7 at g7 hset
      repeat' (first
    | simp (implicitDefEqProofs := false) only [push_cast, reduceIte, reduceCtorEq, Nat.reduceAdd, Nat.reduceSub, Nat.reduceEqDiff, Nat.reduceLT, Nat.reduceLeDiff, Nat.reduceBEq, Nat.reduceMul, Int.reduceLT, Int.reduceLE, Int.reduceEq, Int.reduceToNat, Int.reduceMul, Int.reduceNeg, Go.Proofs.Try.f127, hc, s15, s2, s16, s7, r15, r2, r16, r7, hr, g15, g2, g16, g7, hgj, ycg, wE, eN, List.length_map, Int.toNat_natCast, qae (show j < 9223372036854775807 by omega), yad, zae, qac, zad, yab, qad, sst, qab, yaa, qaa, List.replicate_succ, List.drop_zero]
    | refine Sp2.f ?_ ?_
    | refine Spl.f ?_ ?_ <;> intro hb
    | refine yac rfl (fun b hb => ?_)
    | refine zaa (U := [[], [], [], [], [], [], [], [], [], [], [], [], [], [], [], [], [], [], [], [], [], [], [], [], [], [], [], [], [], [], [], [], [], [], [], [], [], [], [], [], [], [], [], []]) (H := []) zaf (by kernel_rfl) (by decide +kernel) (by kernel_rfl) ?_
    | refine zaa (U := [[], [], [], [], [], [], [], [], [], []]) (H := []) zaf (by kernel_rfl) (by decide +kernel) (by kernel_rfl) ?_
    | refine zaa (U := [[], [], [], [], [], [], [4], [], [4], [], [], [], [], [], [], [], [], [6, 8], [], [], [4, 17], [], [4, 17], [], [], [], [], [], [], []]) (H := []) zaf (by kernel_rfl) (by decide +kernel) (by kernel_rfl) ?_
    | refine zaa (U := [[], [], [], [], [], []]) (H := []) zaf (by kernel_rfl) (by decide +kernel) (by kernel_rfl) ?_
    | refine zaa (U := [[], [], [], [1], [], [1], [], [], [1], [], [], [], [], [3, 5, 8], [], [], [], [], [3, 5, 8], [], [], [], [], [], [3, 5, 8], [], [], [], [3, 5, 8], [], []]) (H := []) zaf (by kernel_rfl) (by decide +kernel) (by kernel_rfl) ?_
    | refine zaa (U := [[], [], [], [], [], [], [], [], [], [], [1, 3, 6], [], [], [], [1, 3, 6], [], [], [], [1, 3, 6], [], [1, 3, 6], [], [], [], []]) (H := []) zaf (by kernel_rfl) (by decide +kernel) (by kernel_rfl) ?_
    | refine zaa (U := [[], [], [], [], [], [], [], [], [], []]) (H := []) zaf (by kernel_rfl) (by decide +kernel) (by kernel_rfl) ?_
    | refine zaq (tn7 x15) ?_
    | refine zaq (tn18 x15) ?_
    | refine zaq (tn17 x2) ?_
    | refine zaq (tn19 x2) ?_)
      refine ⟨by omega, ?_⟩
      rw [← hset]
      rfl
    · have hc : decide ((j : Int) < 64) = false := by simp; omega
      have h64 : j = 64 := by omega
      obtain ⟨W, hW⟩ : ∃ W, W = wAt sb w0 j := ⟨_, rfl⟩
      rw [← hW]
      have hWl : W.length = 64 := by rw [hW]; exact yc9 sb w0 j hwl (by omega)
      have hW2 : W = ybk sb 64 := by rw [hW, h64, wAt_64 sb w0 hwl]
      clear hW hj hj1 h64
      repeat' (first
    | simp (implicitDefEqProofs := false) only [push_cast, reduceIte, reduceCtorEq, Nat.reduceAdd, Nat.reduceSub, Nat.reduceEqDiff, Nat.reduceLT, Nat.reduceLeDiff, Nat.reduceBEq, Nat.reduceMul, Int.reduceLT, Int.reduceLE, Int.reduceEq, Int.reduceToNat, Int.reduceMul, Int.reduceNeg, Go.Proofs.Try.f127, hc, vE, yad, zae, qac, zad, yab, qad, sst, qab, yaa, qaa, List.replicate_succ, List.drop_zero]
    | refine Sp2.f ?_ ?_
    | refine Spl.f ?_ ?_ <;> intro hb
    | refine yac rfl (fun b hb => ?_)
    | refine zaa (U := [[], [], [], [], [], [], [], [], [], [], [], [], [], [], [], [], [], [], [], [], [], [], [], [], [], [], [], [], [], [], [], [], [], [], [], [], [], [], [], [], [], [], [], []]) (H := []) zaf (by kernel_rfl) (by decide +kernel) (by kernel_rfl) ?_
    | refine zaa (U := [[], [], [], [], [], [], [], [], [], []]) (H := []) zaf (by kernel_rfl) (by decide +kernel) (by kernel_rfl) ?_
    | refine zaa (U := [[], [], [], [], [], [], [4], [], [4], [], [], [], [], [], [], [], [], [6, 8], [], [], [4, 17], [], [4, 17], [], [], [], [], [], [], []]) (H := []) zaf (by kernel_rfl) (by decide +kernel) (by kernel_rfl) ?_
    | refine zaa (U := [[], [], [], [], [], []]) (H := []) zaf (by kernel_rfl) (by decide +kernel) (by kernel_rfl) ?_
    | refine zaa (U := [[], [], [], [1], [], [1], [], [], [1], [], [], [], [], [3, 5, 8], [], [], [], [], [3, 5, 8], [], [], [], [], [], [3, 5, 8], [], [], [], [3, 5, 8], [], []]) (H := []) zaf (by kernel_rfl) (by decide +kernel) (by kernel_rfl) ?_
    | refine zaa (U := [[], [], [], [], [], [], [], [], [], [], [1, 3, 6], [], [], [], [1, 3, 6], [], [], [], [1, 3, 6], [], [1, 3, 6], [], [], [], []]) (H := []) zaf (by kernel_rfl) (by decide +kernel) (by kernel_rfl) ?_
    | refine zaa (U := [[], [], [], [], [], [], [], [], [], []]) (H := []) zaf (by kernel_rfl) (by decide +kernel) (by kernel_rfl) ?_)
      refine qau (fun j env' H => j ≤ 64 ∧ H = h ++ [vE v, z8E, wE K, wE W, vE (rnds sb v j)] ∧ env' = (fun a : Nat → AV => [(0, .agg 167 (v.l.map eN)), (1, eBs bs), (2, .int .i64 p), (3, .ref h.length [0] 167), (6, .ref (h.length + 1) [0] 167), (7, .ref (h.length + 2) [0] 185), (8, .ref (h.length + 3) [0] 185), (9, a 9), (10, a 10), (11, a 11), (12, a 12), (13, .ref (h.length + 4) [0] 167), (14, .int .i64 j), (15, a 15), (16, a 16), (17, a 17), (18, a 18), (19, a 19), (22, a 22), (69, a 69), (111, a 111), (191, a 191)]) (lk env')) 64 ⟨Nat.zero_le _, rfl, rfl⟩ ?_
      clear a hc hj64 j hi2 i2
      rintro j env H ⟨hj, rfl, henv⟩
      refine ⟨hj, ?_⟩
      rw [henv]
      generalize lk env = a
      clear henv env
      by_cases hj64 : j < 64
      · have hc : decide ((j : Int) < 64) = true := by simp; omega
        have hr : (0 ≤ (j : Int) ∧ (j : Int) < 64) = True := by simp; omega
        have hst : rnds sb v (j + 1) = rnd32 (rnds sb v j) (K.getD j 0) (W.getD j 0) := by rw [hK2, hW2]; rfl
        have gk : (K.map eN)[j]? = some (eN (K.getD j 0)) := ybi (by rw [hKl]; exact hj64)
        have gw : (W.map eN)[j]? = some (eN (W.getD j 0)) := ybi (by rw [hWl]; exact hj64)
        generalize rnds sb v j = w at hst ⊢
        generalize K.getD j 0 = kk at gk hst
        generalize W.getD j 0 = ww at gw hst
        repeat' (first
    | simp (implicitDefEqProofs := false) only [push_cast, reduceIte, reduceCtorEq, Nat.reduceAdd, Nat.reduceSub, Nat.reduceEqDiff, Nat.reduceLT, Nat.reduceLeDiff, Nat.reduceBEq, Nat.reduceMul, Int.reduceLT, Int.reduceLE, Int.reduceEq, Int.reduceToNat, Int.reduceMul, Int.reduceNeg, Go.Proofs.Try.f127, hc, hr, gk, gw, ycg, cast8, wE, vE, V8.l, eN, List.length_map, Int.toNat_natCast, qae (show j < 9223372036854775807 by omega), yad, zae, qac, zad, yab, qad, sst, qab, yaa, qaa, List.replicate_succ, List.drop_zero]
    | refine Sp2.f ?_ ?_
    | refine Spl.f ?_ ?_ <;> intro hb
    | refine yac rfl (fun b hb => ?_)
    | refine zaa (U := [[], [], [], [], [], [], [], [], [], [], [], [], [], [], [], [], [], [], [], [], [], [], [], [], [], [], [], [], [], [], [], [], [], [], [], [], [], [], [], [], [], [], [], []]) (H := []) zaf (by kernel_rfl) (by decide +kernel) (by kernel_rfl) ?_
    | refine zaa (U := [[], [], [], [], [], [], [], [], [], []]) (H := []) zaf (by kernel_rfl) (by decide +kernel) (by kernel_rfl) ?_
    | refine zaa (U := [[], [], [], [], [], [], [4], [], [4], [], [], [], [], [], [], [], [], [6, 8], [], [], [4, 17], [], [4, 17], [], [], [], [], [], [], []]) (H := []) zaf (by kernel_rfl) (by decide +kernel) (by kernel_rfl) ?_
    | refine zaa (U := [[], [], [], [], [], []]) (H := []) zaf (by kernel_rfl) (by decide +kernel) (by kernel_rfl) ?_
    | refine zaa (U := [[], [], [], [1], [], [1], [], [], [1], [], [], [], [], [3, 5, 8], [], [], [], [], [3, 5, 8], [], [], [], [], [], [3, 5, 8], [], [], [], [3, 5, 8], [], []]) (H := []) zaf (by kernel_rfl) (by decide +kernel) (by kernel_rfl) ?_
    | refine zaa (U := [[], [], [], [], [], [], [], [], [], [], [1, 3, 6], [], [], [], [1, 3, 6], [], [], [], [1, 3, 6], [], [1, 3, 6], [], [], [], []]) (H := []) zaf (by kernel_rfl) (by decide +kernel) (by kernel_rfl) ?_
    | refine zaa (U := [[], [], [], [], [], [], [], [], [], []]) (H := []) zaf (by kernel_rfl) (by decide +kernel) (by kernel_rfl) ?_
    | refine zaq (tn6 w.e) ?_
    | refine zaq (tn11 w.e) ?_
    | refine zaq (tn25 w.e) ?_
    | refine zaq (tn2 w.a) ?_
    | refine zaq (tn13 w.a) ?_
    | refine zaq (tn22 w.a) ?_)
        refine ⟨by omega, ?_⟩
        rw [hst]
        rfl
      · have hc : decide ((j : Int) < 64) = false := by simp; omega
        have h64 : j = 64 := by omega
        obtain ⟨z, hz⟩ : ∃ z, z = rnds sb v j := ⟨_, rfl⟩
        rw [← hz]
        have hblk2 : (blk v sb).l = List.zipWith zbe v.l z.l := by rw [hz, h64]; rfl
        rw [hblk2]
        clear hblk2 hz h64 hj
        repeat' (first
    | simp (implicitDefEqProofs := false) only [push_cast, reduceIte, reduceCtorEq, Nat.reduceAdd, Nat.reduceSub, Nat.reduceEqDiff, Nat.reduceLT, Nat.reduceLeDiff, Nat.reduceBEq, Nat.reduceMul, Int.reduceLT, Int.reduceLE, Int.reduceEq, Int.reduceToNat, Int.reduceMul, Int.reduceNeg, Go.Proofs.Try.f127, hc, yad, zae, qac, zad, yab, qad, sst, qab, yaa, qaa, List.replicate_succ, List.drop_zero]
    | refine Sp2.f ?_ ?_
    | refine Spl.f ?_ ?_ <;> intro hb
    | refine yac rfl (fun b hb => ?_)
    | refine zaa (U := [[], [], [], [], [], [], [], [], [], [], [], [], [], [], [], [], [], [], [], [], [], [], [], [], [], [], [], [], [], [], [], [], [], [], [], [], [], [], [], [], [], [], [], []]) (H := []) zaf (by kernel_rfl) (by decide +kernel) (by kernel_rfl) ?_
    | refine zaa (U := [[], [], [], [], [], [], [], [], [], []]) (H := []) zaf (by kernel_rfl) (by decide +kernel) (by kernel_rfl) ?_
    | refine zaa (U := [[], [], [], [], [], [], [4], [], [4], [], [], [], [], [], [], [], [], [6, 8], [], [], [4, 17], [], [4, 17], [], [], [], [], [], [], []]) (H := []) zaf (by kernel_rfl) (by decide +kernel) (by kernel_rfl) ?_
    | refine zaa (U := [[], [], [], [], [], []]) (H := []) zaf (by kernel_rfl) (by decide +kernel) (by kernel_rfl) ?_
    | refine zaa (U := [[], [], [], [1], [], [1], [], [], [1], [], [], [], [], [3, 5, 8], [], [], [], [], [3, 5, 8], [], [], [], [], [], [3, 5, 8], [], [], [], [3, 5, 8], [], []]) (H := []) zaf (by kernel_rfl) (by decide +kernel) (by kernel_rfl) ?_
    | refine zaa (U := [[], [], [], [], [], [], [], [], [], [], [1, 3, 6], [], [], [], [1, 3, 6], [], [], [], [1, 3, 6], [], [1, 3, 6], [], [], [], []]) (H := []) zaf (by kernel_rfl) (by decide +kernel) (by kernel_rfl) ?_
    | refine zaa (U := [[], [], [], [], [], [], [], [], [], []]) (H := []) zaf (by kernel_rfl) (by decide +kernel) (by kernel_rfl) ?_)
        refine qau (fun j env' H => j ≤ 8 ∧ H = h ++ [lE (mix v.l z.l j), z8E, wE K, wE W, vE z] ∧ env' = (fun a : Nat → AV => [(0, .agg 167 (v.l.map eN)), (1, eBs bs), (2, .int .i64 p), (3, .ref h.length [0] 167), (6, .ref (h.length + 1) [0] 167), (7, .ref (h.length + 2) [0] 185), (8, .ref (h.length + 3) [0] 185), (9, a 9), (10, a 10), (11, a 11), (12, a 12), (13, .ref (h.length + 4) [0] 167), (14, a 14), (15, a 15), (16, a 16), (17, a 17), (18, a 18), (19, .int .i64 j), (22, a 22), (69, a 69), (111, a 111), (191, a 191)]) (lk env')) 8 ⟨Nat.zero_le _, rfl, rfl⟩ ?_
        clear a hc hj64 j
        rintro j env H ⟨hj, rfl, henv⟩
        refine ⟨hj, ?_⟩
        rw [henv]
        generalize lk env = a
        clear henv env
        by_cases hj8 : j < 8
        · have hc : decide ((j : Int) < 8) = true := by simp; omega
          have hr : (0 ≤ (j : Int) ∧ (j : Int) < 8) = True := by simp; omega
          have gu := ybi (l := mix v.l z.l j) (i := j) (by rw [mix_len (show v.l.length = z.l.length from rfl) (show j ≤ v.l.length from hj)]; exact hj8)
          have gz := ybi (l := z.l) (i := j) hj8
          have hset := mix_set (a := v.l) (b := z.l) (j := j) rfl hj8
          have hd1 : lE (mix v.l z.l (j + 1)) = ⟨167, [.agg 167 ((mix v.l z.l (j + 1)).map eN)], .own⟩ := rfl
          rw [hd1, ← hset]
          generalize hml : (mix v.l z.l j).map eN = ml at gu hset ⊢
          generalize hzl : z.l.map eN = zl at gz
          generalize (mix v.l z.l j).getD j 0 = x1 at gu hset ⊢
          generalize z.l.getD j 0 = x2 at gz hset ⊢
          have hv : vE z = ⟨167, [.agg 167 zl], .own⟩ := by rw [vE, hzl]
          have hd : lE (mix v.l z.l j) = ⟨167, [.agg 167 ml], .own⟩ := by rw [lE, hml]
          rw [hv, hd]
          repeat' (first
    | simp (implicitDefEqProofs := false) only [push_cast, reduceIte, reduceCtorEq, Nat.reduceAdd, Nat.reduceSub, Nat.reduceEqDiff, Nat.reduceLT, Nat.reduceLeDiff, Nat.reduceBEq, Nat.reduceMul, Int.reduceLT, Int.reduceLE, Int.reduceEq, Int.reduceToNat, Int.reduceMul, Int.reduceNeg, Go.Proofs.Try.f127, hc, hr, gu, gz, cast8, eN, List.length_map, Int.toNat_natCast, qae (show j < 9223372036854775807 by omega), yad, zae, qac, zad, yab, qad, sst, qab, yaa, qaa, List.replicate_succ, List.drop_zero]
    | refine Sp2.f ?_ ?_
    | refine Spl.f ?_ ?_ <;> intro hb
    | refine yac rfl (fun b hb => ?_)
    | refine zaa (U := [[], [], [], [], [], [], [], [], [], [], [], [], [], [], [], [], [], [], [], [], [], [], [], [], [], [], [], [], [], [], [], [], [], [], [], [], [], [], [], [], [], [], [], []]) (H := []) zaf (by kernel_rfl) (by decide +kernel) (by kernel_rfl) ?_
    | refine zaa (U := [[], [], [], [], [], [], [], [], [], []]) (H := []) zaf (by kernel_rfl) (by decide +kernel) (by kernel_rfl) ?_
    | refine zaa (U := [[], [], [], [], [], [], [4], [], [4], [], [], [], [], [], [], [], [], [6, 8], [], [], [4, 17], [], [4, 17], [], [], [], [], [], [], []]) (H := []) zaf (by kernel_rfl) (by decide +kernel) (by kernel_rfl) ?_
    | refine zaa (U := [[], [], [], [], [], []]) (H := []) zaf (by kernel_rfl) (by decide +kernel) (by kernel_rfl) ?_
    | refine zaa (U := [[], [], [], [1], [], [1], [], [], [1], [], [], [], [], [3, 5, 8], [], [], [], [], [3, 5, 8], [], [], [], [], [], [3, 5, 8], [], [], [], [3, 5, 8], [], []]) (H := []) zaf (by kernel_rfl) (by decide +kernel) (by kernel_rfl) ?_
    | refine zaa (U := [[], [], [], [], [], [], [], [], [], [], [1, 3, 6], [], [], [], [1, 3, 6], [], [], [], [1, 3, 6], [], [1, 3, 6], [], [], [], []]) (H := []) zaf (by kernel_rfl) (by decide +kernel) (by kernel_rfl) ?_
    | refine zaa (U := [[], [], [], [], [], [], [], [], [], []]) (H := []) zaf (by kernel_rfl) (by decide +kernel) (by kernel_rfl) ?_)
          refine ⟨by omega, ?_⟩
          rfl
        · have hc : decide ((j : Int) < 8) = false := by simp; omega
          have h8 : j = 8 := by omega
          have hm8 : mix v.l z.l j = List.zipWith zbe v.l z.l := by rw [h8]; rfl
          rw [hm8]
          have hdz : qc8 ((List.zipWith zbe v.l z.l).map eN) = true := yaw eN eN_dat _
          repeat' (first
    | simp (implicitDefEqProofs := false) only [push_cast, reduceIte, reduceCtorEq, Nat.reduceAdd, Nat.reduceSub, Nat.reduceEqDiff, Nat.reduceLT, Nat.reduceLeDiff, Nat.reduceBEq, Nat.reduceMul, Int.reduceLT, Int.reduceLE, Int.reduceEq, Int.reduceToNat, Int.reduceMul, Int.reduceNeg, Go.Proofs.Try.f127, hc, lE, z8E, yad, zae, qac, zad, yab, qad, sst, qab, yaa, qaa, List.replicate_succ, List.drop_zero]
    | refine Sp2.f ?_ ?_
    | refine Spl.f ?_ ?_ <;> intro hb
    | refine yac rfl (fun b hb => ?_)
    | refine zaa (U := [[], [], [], [], [], [], [], [], [], [], [], [], [], [], [], [], [], [], [], [], [], [], [], [], [], [], [], [], [], [], [], [], [], [], [], [], [], [], [], [], [], [], [], []]) (H := []) zaf (by kernel_rfl) (by decide +kernel) (by kernel_rfl) ?_
    | refine zaa (U := [[], [], [], [], [], [], [], [], [], []]) (H := []) zaf (by kernel_rfl) (by decide +kernel) (by kernel_rfl) ?_
    | refine zaa (U := [[], [], [], [], [], [], [4], [], [4], [], [], [], [], [], [], [], [], [6, 8], [], [], [4, 17], [], [4, 17], [], [], [], [], [], [], []]) (H := []) zaf (by kernel_rfl) (by decide +kernel) (by kernel_rfl) ?_
    | refine zaa (U := [[], [], [], [], [], []]) (H := []) zaf (by kernel_rfl) (by decide +kernel) (by kernel_rfl) ?_
    | refine zaa (U := [[], [], [], [1], [], [1], [], [], [1], [], [], [], [], [3, 5, 8], [], [], [], [], [3, 5, 8], [], [], [], [], [], [3, 5, 8], [], [], [], [3, 5, 8], [], []]) (H := []) zaf (by kernel_rfl) (by decide +kernel) (by kernel_rfl) ?_
    | refine zaa (U := [[], [], [], [], [], [], [], [], [], [], [1, 3, 6], [], [], [], [1, 3, 6], [], [], [], [1, 3, 6], [], [1, 3, 6], [], [], [], []]) (H := []) zaf (by kernel_rfl) (by decide +kernel) (by kernel_rfl) ?_
    | refine zaa (U := [[], [], [], [], [], [], [], [], [], []]) (H := []) zaf (by kernel_rfl) (by decide +kernel) (by kernel_rfl) ?_)
          exact res_mk (by rw [qbt]; exact hdz) rfl
theorem c_refblock (v : V8) (bs : List UInt8) (p : Nat) (hp : p + 64 ≤ bs.length) (hl : bs.length ≤ 4294967296) : Fn prog 127 [.agg 167 (v.l.map eN), eBs bs, .int .i64 p] (.agg 167 ((blk v ((bs.drop p).take 64)).l.map eN)) :=
  c_refblock0 v bs ((bs.drop p).take 64) p hp hl (fun k hk => by
    rw [List.getD_eq_getElem?_getD, List.getD_eq_getElem?_getD, List.getElem?_take, if_pos hk, List.getElem?_drop]) _ rfl (by simp) kTab kAgg rfl rfl
end Go.Abs
