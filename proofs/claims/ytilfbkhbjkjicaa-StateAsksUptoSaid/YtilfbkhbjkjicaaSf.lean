/- Sf: a part of the proofs about the tuple space and its bytes. -/
import Derived.Test.YtilfbkhbjkjicaaSc
import Derived.Test.YtilfbkhbjkjicaaSd
import Derived.Test.YtilfbkhbjkjicaaGv
set_option linter.all false
set_option maxRecDepth 100000
set_option maxHeartbeats 0
namespace Go.Abs
open Go
open Go.Proofs.Try (prog)
theorem blks_take (v : V8) (bs : List UInt8) (q : Nat) (hq : 64 * q ≤ bs.length) : qbw v (bs.take (64 * q)) q = qbw v bs q := by
  have h := blks_app v (bs.take (64 * q)) (bs.drop (64 * q)) q 0 (by simp; omega)
  rw [List.take_append_drop] at h
  exact h.symm
theorem c_Write0 (v : V8) (bs rs : List UInt8) (c : Int) {h : List Entry} {kd : Nat} (hk : h[kd]? = some (dgL v.l rs c)) (hl : bs.length ≤ 1000000000) (hr : rs.length = 64) (hc : c.tmod 64 = 0) :
    FSpec prog 125 [.ref kd [0] 184, eBs bs] h fun r h' => r = .tup [] ∧ h' = h.set kd (dgL (qbw v bs (bs.length / 64)).l (bs.drop (64 * (bs.length / 64)) ++ rs.drop (bs.length % 64)) (IntKind.u64.wrap (c + IntKind.u64.wrap bs.length))) := by
  refine det_setU wfp (qdn ..) (frun_125 rfl ?_)
  have hkd := zac hk
  obtain ⟨q, hq⟩ : ∃ q, q = bs.length / 64 := ⟨_, rfl⟩
  have e1 : IntKind.wrap .i64 ((bs.length : Int).tdiv 64) = (q : Int) := by
    refine qap q ?_ (by omega)
    rw [Int.tdiv_eq_ediv_of_nonneg (by omega)]; omega
  obtain ⟨p, hp⟩ : ∃ p, p = 64 * q := ⟨_, rfl⟩
  have e2 : IntKind.wrap .i64 ((q : Int) * 64) = (p : Int) := qap p (by omega) (by omega)
  have e3 : (0 ≤ (p : Int) ∧ (p : Int) ≤ (bs.length : Int)) = True := by simp; omega
  have e4 : ((p : Int) ≤ (bs.length : Int)) = True := by simp; omega
  have et : (bs.map eB).take p = (bs.take p).map eB := (List.map_take ..).symm
  have ed : (bs.map eB).drop p = (bs.drop p).map eB := (List.map_drop ..).symm
  have ek : (bs.map eB).take bs.length = bs.map eB := List.take_of_length_le (by simp)
  have hbl := c_blockL v (bs.take p) rs (IntKind.u64.wrap (c + IntKind.u64.wrap bs.length)) (h := h.set kd (dgL v.l rs (IntKind.u64.wrap (c + IntKind.u64.wrap bs.length)))) (kd := kd) (List.getElem?_set_self hkd) (by simp; omega)
  rw [show (bs.take p).length / 64 = q by simp; omega, hp, blks_take v bs q (by omega), ← hp, List.set_set] at hbl
  have h0 : IntKind.wrap .i64 0 = 0 := rfl
  have e5 : ((bs.drop p).map eB).take 64 = (bs.drop p).map eB := List.take_of_length_le (by simp; omega)
  have e6 : (0 + (bs.drop p).length ≤ (rs.map eB).length) = True := by simp; omega
  have e7 : (bs.drop p).map eB ++ (rs.map eB).drop (bs.drop p).length = (bs.drop (64 * (bs.length / 64)) ++ rs.drop (bs.length % 64)).map eB := by
    rw [List.map_append, ← List.map_drop, hp, hq, List.length_drop]
    congr 3; omega
  have e8 : ((bs.drop p).length ≤ rs.length) = True := by simp; omega
  have e9 : min (bs.drop p).length 64 = (bs.drop p).length := by simp; omega
  simp only [eBs] at hbl
  repeat' (first
    | simp (implicitDefEqProofs := false) only [push_cast, reduceIte, reduceCtorEq, Nat.reduceAdd, Nat.reduceSub, Nat.reduceEqDiff, Nat.reduceLT, Nat.reduceLeDiff, Nat.reduceBEq, Nat.reduceMul, Int.reduceLT, Int.reduceLE, Int.reduceEq, Int.reduceToNat, Int.reduceMul, Int.reduceNeg, Go.Proofs.Try.f125, hk, hc, h0, e1, e2, e3, e4, et, ed, ek, e5, e6, e8, e9, hkd, dgL, eBs, List.length_map, Int.toNat_natCast, ycg, zaj hkd, yag hkd, za4 hkd, yaj hkd, yad, zae, qac, zad, yab, qad, sst, qab, yaa, qaa, List.replicate_succ, List.drop_zero]
    | refine Sp2.f ?_ ?_
    | refine Spl.f ?_ ?_ <;> intro hb
    | refine yac rfl (fun b hb => ?_)
    | refine zaa (U := [[], [], [], [], [], [], [], [], [], [3], []]) (H := []) zaf (by kernel_rfl) (by decide +kernel) (by kernel_rfl) ?_
    | refine yal hbl ?_)
  · omega
  · omega
  · refine ⟨?_, rfl⟩
    rw [List.take_of_length_le (by simp), e7, hq]
theorem c_WriteF (v : V8) (bs rs : List UInt8) (c : Int) (t m : Nat) {h : List Entry} {kd : Nat} (hk : h[kd]? = some (dgL v.l rs c)) (hl : bs.length ≤ 1000000000) (hr : rs.length = 64) (hc : c.tmod 64 = t) (ht : 0 < t ∧ t < 64) (hm : t + bs.length = 64 * m) (hm1 : 1 ≤ m) :
    ∃ rs', FSpec prog 125 [.ref kd [0] 184, eBs bs] h fun r h' => r = .tup [] ∧ h' = h.set kd (dgL (qbw v (rs.take t ++ bs) m).l rs' (IntKind.u64.wrap (c + IntKind.u64.wrap bs.length))) := by
  have hkd := zac hk
  obtain ⟨g, hg⟩ : ∃ g, g = 64 - t := ⟨_, rfl⟩
  obtain ⟨c2, hc2⟩ : ∃ c2, c2 = IntKind.u64.wrap (c + IntKind.u64.wrap bs.length) := ⟨_, rfl⟩
  have hrs1 : (rs.take t ++ bs.take g).length = 64 := by simp; omega
  have hb1 := c_blockW v (rs.take t ++ bs.take g) c2 (h := h.set kd (dgL v.l (rs.take t ++ bs.take g) c2)) (kd := kd) (List.getElem?_set_self hkd) hrs1
  have hb2 := c_blockL (qbw v (rs.take t ++ bs.take g) 1) (bs.drop g) (rs.take t ++ bs.take g) c2 (h := h.set kd (dgL (qbw v (rs.take t ++ bs.take g) 1).l (rs.take t ++ bs.take g) c2)) (kd := kd) (List.getElem?_set_self hkd) (by simp; omega)
  rw [List.set_set] at hb1 hb2
  have hq : (bs.drop g).length / 64 = m - 1 := by simp; omega
  have hall : qbw (qbw v (rs.take t ++ bs.take g) 1) (bs.drop g) (m - 1) = qbw v (rs.take t ++ bs) m := by
    have := blks_app v (rs.take t ++ bs.take g) (bs.drop g) 1 (m - 1) (by rw [hrs1])
    rw [List.append_assoc, List.take_append_drop, show 1 + (m - 1) = m by omega] at this
    exact this.symm
  rw [hq, hall] at hb2
  refine ⟨rs.take t ++ bs.take g, det_setU wfp (qdn ..) (frun_125 rfl ?_)⟩
  rw [← hc2]
  have h0 : IntKind.wrap .i64 (t : Int) = (t : Int) := qap t rfl (by omega)
  have f0 : decide ((0 : Int) < (t : Int)) = true := by simp; omega
  have f1 : (0 ≤ (t : Int) ∧ (t : Int) ≤ 64) = True := by simp; omega
  have f2 : ((t : Int) ≤ 64) = True := by simp; omega
  have f3 : (bs.map eB).take (64 - t) = (bs.take g).map eB := by rw [← List.map_take, hg]
  have f4 : (t + (bs.take g).length ≤ rs.length) = True := by simp; omega
  have f5 : (rs.map eB).take t ++ ((bs.take g).map eB ++ (rs.map eB).drop (t + (bs.take g).length)) = (rs.take t ++ bs.take g).map eB := by
    rw [← List.map_take, ← List.map_drop, List.drop_of_length_le (by simp; omega)]; simp
  have f6 : min bs.length (64 - t) = g := by omega
  have f7 : (0 ≤ (g : Int) ∧ (g : Int) ≤ (bs.length : Int)) = True := by simp; omega
  have f8 : ((g : Int) ≤ (bs.length : Int)) = True := by simp; omega
  have ek : (bs.map eB).take bs.length = bs.map eB := List.take_of_length_le (by simp)
  have ed : (bs.map eB).drop g = (bs.drop g).map eB := (List.map_drop ..).symm
  have w1 : IntKind.wrap .i64 ((t : Int) + (g : Int)) = ((64 : Nat) : Int) := qap 64 (by omega) (by omega)
  have w2 : decide ((64 : Int) < 64) = false := rfl
  generalize hbd : bs.drop g = bd at ed hb2
  have hbdl : bd.length = 64 * (m - 1) := by rw [← hbd]; simp; omega
  obtain ⟨p, hp⟩ : ∃ p, p = bd.length := ⟨_, rfl⟩
  have e1 : IntKind.wrap .i64 ((bd.length : Int).tdiv 64) = ((m - 1 : Nat) : Int) := by
    refine qap (m - 1) ?_ (by omega)
    rw [Int.tdiv_eq_ediv_of_nonneg (by omega)]; omega
  obtain ⟨q, hqq⟩ : ∃ q, q = m - 1 := ⟨_, rfl⟩
  rw [← hqq] at e1
  have e2 : IntKind.wrap .i64 ((q : Int) * 64) = (bd.length : Int) := qap bd.length (by omega) (by omega)
  have e3 : (0 ≤ (bd.length : Int) ∧ (bd.length : Int) ≤ (bd.length : Int)) = True := by simp
  have e4 : ((bd.length : Int) ≤ (bd.length : Int)) = True := by simp
  have e5 : (bd.map eB).take bd.length = bd.map eB := List.take_of_length_le (by simp)
  have e6 : (bd.map eB).drop bd.length = [] := List.drop_of_length_le (by simp)
  have n1 : ((0 : Int) ≤ (t : Int)) = True := by simp
  have n2 : ((0 : Int) ≤ (g : Int)) = True := by simp
  have n3 : ((0 : Int) ≤ (bd.length : Int)) = True := by simp
  have n4 : ((bs.length : Int) ≤ (bs.length : Int)) = True := by simp
  simp only [eBs, dgL] at hb1 hb2
  repeat' (first
    | simp (implicitDefEqProofs := false) only [push_cast, reduceIte, reduceCtorEq, Nat.reduceAdd, Nat.reduceSub, Nat.reduceEqDiff, Nat.reduceLT, Nat.reduceLeDiff, Nat.reduceBEq, Nat.reduceMul, Int.reduceLT, Int.reduceLE, Int.reduceEq, Int.reduceToNat, Int.reduceMul, Int.reduceNeg, Go.Proofs.Try.f125, hk, hc, h0, f0, f1, f2, f3, f4, f5, f6, f7, f8, ek, ed, w1, w2, e1, e2, e3, e4, e5, e6, hkd, ← hc2, n1, n2, n3, n4, dgL, eBs, List.take_nil, Nat.zero_le, Nat.zero_min, List.length_map, Int.toNat_natCast, ycg, zaj hkd, yag hkd, za4 hkd, yaj hkd, yad, zae, qac, zad, yab, qad, sst, qab, yaa, qaa, List.replicate_succ, List.drop_zero]
    | refine Sp2.f ?_ ?_
    | refine Spl.f ?_ ?_ <;> intro hb
    | refine yac rfl (fun b hb => ?_)
    | refine zaa (U := [[], [], [], [], [], [], [], [], [], [3], []]) (H := []) zaf (by kernel_rfl) (by decide +kernel) (by kernel_rfl) ?_
    | refine yal hb1 ?_
    | refine yal hb2 ?_)
  all_goals first
    | omega
    | (refine ⟨?_, rfl⟩
       rw [List.take_of_length_le (by simp)])
theorem c_DNew (h : List Entry) : FSpec prog 124 [] h fun r h' => r = .ref h.length [0] 184 ∧ h' = h ++ [dgL v8.l (List.replicate 64 0) 0] := by
  refine frun_124 rfl ?_
  repeat' (first
    | simp (implicitDefEqProofs := false) only [push_cast, reduceIte, reduceCtorEq, Nat.reduceAdd, Nat.reduceSub, Nat.reduceEqDiff, Nat.reduceLT, Nat.reduceLeDiff, Nat.reduceBEq, Nat.reduceMul, Int.reduceLT, Int.reduceLE, Int.reduceEq, Int.reduceToNat, Int.reduceMul, Int.reduceNeg, Go.Proofs.Try.f124]
    | refine Sp2.f ?_ ?_
    | refine Spl.f ?_ ?_ <;> intro hb
    | refine yac rfl (fun b hb => ?_)
    | refine zay c_first ?_)
  rfl
theorem c_DCopy (l : List Int) (rs : List UInt8) (c : Int) {h : List Entry} {kd : Nat} (hk : h[kd]? = some (dgL l rs c)) : FSpec prog 152 [.ref kd [0] 184] h fun r h' => r = .ref h.length [0] 184 ∧ h' = h ++ [dgL l rs c] := by
  have hkd := zac hk
  refine frun_152 rfl ?_
  repeat' (first
    | simp (implicitDefEqProofs := false) only [push_cast, reduceIte, reduceCtorEq, Nat.reduceAdd, Nat.reduceSub, Nat.reduceEqDiff, Nat.reduceLT, Nat.reduceLeDiff, Nat.reduceBEq, Nat.reduceMul, Int.reduceLT, Int.reduceLE, Int.reduceEq, Int.reduceToNat, Int.reduceMul, Int.reduceNeg, Go.Proofs.Try.f152, hk, hkd, dgL, zaj hkd, yag hkd, za4 hkd, yaj hkd, yad, zae, qac, zad, yab, qad, sst, qab, yaa, qaa, List.replicate_succ, List.drop_zero]
    | refine Sp2.f ?_ ?_
    | refine Spl.f ?_ ?_ <;> intro hb
    | refine yac rfl (fun b hb => ?_))
end Go.Abs
set_option linter.all false
set_option maxRecDepth 100000
set_option maxHeartbeats 0
namespace Go.Abs
open Go
open Go.Proofs.Try (prog)
def eH (l : List UInt8) : AV := .agg 36 (l.map eB)
theorem zcg (l : List UInt8) : dat (eH l) = true := by rw [eH, qbt]; exact yaw eB yc8 l
theorem eH_ty (l : List UInt8) : tyB prog (eH l) 36 = true := by simp [eH, tyB]
theorem ydv (l : List UInt8) : zah (eH l) = true := rfl
def endL (z : Nat) (l : List UInt8) : List AV := ((0x80 : UInt8) :: List.replicate z 0 ++ l).map eB
theorem endL_len (z : Nat) (l : List UInt8) : (endL z l).length = z + 1 + l.length := by simp [endL]; omega
theorem cast0 : ((0 : Nat) : Int) = 0 := rfl
theorem cast1 : ((1 : Nat) : Int) = 1 := rfl
theorem cast32 : ((32 : Nat) : Int) = 32 := rfl
theorem wl0 : IntKind.wrap .i64 (0 : Int) = 0 := rfl
theorem wl1 : IntKind.wrap .i64 (1 : Int) = 1 := rfl
theorem wl2 : IntKind.wrap .i64 (2 : Int) = 2 := rfl
theorem wl3 : IntKind.wrap .i64 (3 : Int) = 3 := rfl
theorem wl4 : IntKind.wrap .i64 (4 : Int) = 4 := rfl
theorem wl5 : IntKind.wrap .i64 (5 : Int) = 5 := rfl
theorem wl6 : IntKind.wrap .i64 (6 : Int) = 6 := rfl
theorem wl7 : IntKind.wrap .i64 (7 : Int) = 7 := rfl
theorem wl8 : IntKind.wrap .i64 (8 : Int) = 8 := rfl
theorem wl9 : IntKind.wrap .i64 (9 : Int) = 9 := rfl
theorem wl10 : IntKind.wrap .i64 (10 : Int) = 10 := rfl
theorem wl11 : IntKind.wrap .i64 (11 : Int) = 11 := rfl
theorem wl12 : IntKind.wrap .i64 (12 : Int) = 12 := rfl
theorem wl13 : IntKind.wrap .i64 (13 : Int) = 13 := rfl
theorem wl14 : IntKind.wrap .i64 (14 : Int) = 14 := rfl
theorem wl15 : IntKind.wrap .i64 (15 : Int) = 15 := rfl
theorem wl16 : IntKind.wrap .i64 (16 : Int) = 16 := rfl
theorem wl17 : IntKind.wrap .i64 (17 : Int) = 17 := rfl
theorem wl18 : IntKind.wrap .i64 (18 : Int) = 18 := rfl
theorem wl19 : IntKind.wrap .i64 (19 : Int) = 19 := rfl
theorem wl20 : IntKind.wrap .i64 (20 : Int) = 20 := rfl
theorem wl21 : IntKind.wrap .i64 (21 : Int) = 21 := rfl
theorem wl22 : IntKind.wrap .i64 (22 : Int) = 22 := rfl
theorem wl23 : IntKind.wrap .i64 (23 : Int) = 23 := rfl
theorem wl24 : IntKind.wrap .i64 (24 : Int) = 24 := rfl
theorem wl25 : IntKind.wrap .i64 (25 : Int) = 25 := rfl
theorem wl26 : IntKind.wrap .i64 (26 : Int) = 26 := rfl
theorem wl27 : IntKind.wrap .i64 (27 : Int) = 27 := rfl
theorem wl28 : IntKind.wrap .i64 (28 : Int) = 28 := rfl
theorem wl29 : IntKind.wrap .i64 (29 : Int) = 29 := rfl
theorem wl30 : IntKind.wrap .i64 (30 : Int) = 30 := rfl
theorem wl31 : IntKind.wrap .i64 (31 : Int) = 31 := rfl
def by4A (x : Int) : List AV := [.int .u8 (IntKind.u8.wrap (qc4 x 24)), .int .u8 (IntKind.u8.wrap (qc4 x 16)), .int .u8 (IntKind.u8.wrap (qc4 x 8)), .int .u8 (IntKind.u8.wrap x)]
theorem by4A_eq (x : Int) : by4A x = (by4 x).map eB := by simp [by4A, by4, eB, u8_eq]
def oAt (V : V8) (j : Nat) : List AV := (V.l.take j).flatMap by4A ++ List.replicate (32 - 4 * j) (.int .u8 0)
theorem oAt_8 (V : V8) : oAt V 8 = (V.l.flatMap by4).map eB := by
  simp [oAt, V8.l, by4A_eq]
def hE0 : Entry := ⟨36, [.agg 36 ((List.replicate 32 (0 : UInt8)).map eB)], .own⟩
def dsE (bs : List UInt8) : Entry := dgL (qbw v8 bs (bs.length / 64)).l (bs.drop (64 * (bs.length / 64)) ++ (List.replicate 64 (0 : UInt8)).drop (bs.length % 64)) bs.length
theorem c_DSum (bs : List UInt8) (hl : bs.length ≤ 100000000) {h : List Entry} {kd : Nat} (hk : h[kd]? = some (dsE bs)) :
    FSpec prog 126 [.ref kd [0] 184] h fun r h' => r = eH (qdx bs) ∧ h' = h := by
  refine det_none wfp (qan _ (zcg _)) (frun_126 rfl ?_)
  have hkd := zac hk
  obtain ⟨t, ht⟩ : ∃ t, t = bs.length % 64 := ⟨_, rfl⟩
  obtain ⟨q, hq⟩ : ∃ q, q = bs.length / 64 := ⟨_, rfl⟩
  have hrl : (bs.drop (64 * (bs.length / 64)) ++ (List.replicate 64 (0 : UInt8)).drop (bs.length % 64)).length = 64 := by
    simp only [List.length_append, List.length_drop, List.length_replicate]; omega
  have hrt : (bs.drop (64 * (bs.length / 64)) ++ (List.replicate 64 (0 : UInt8)).drop (bs.length % 64)).take t = bs.drop (64 * q) := by
    rw [List.take_append_of_le_length (by simp only [List.length_drop]; omega), List.take_of_length_le (by simp only [List.length_drop]; omega), hq]
  rw [dsE] at hk
  generalize bs.drop (64 * (bs.length / 64)) ++ (List.replicate 64 (0 : UInt8)).drop (bs.length % 64) = rs at hk hrl hrt
  rw [← hq] at hk
  have hkB : (h ++ [hE0])[kd]? = some (dgL (qbw v8 bs q).l rs bs.length) := by rw [List.getElem?_append_left hkd]; exact hk
  have hcp := c_DCopy _ _ _ hkB
  rw [List.append_assoc, List.cons_append, List.nil_append, List.length_append, List.length_cons, List.length_nil] at hcp
  obtain ⟨v, hvq⟩ : ∃ v, v = qbw v8 bs q := ⟨_, rfl⟩
  rw [← hvq] at hk hkB hcp
  repeat' (first
    | simp (implicitDefEqProofs := false) only [push_cast, reduceIte, reduceCtorEq, Nat.reduceAdd, Nat.reduceSub, Nat.reduceEqDiff, Nat.reduceLT, Nat.reduceLeDiff, Nat.reduceBEq, Nat.reduceMul, Int.reduceLT, Int.reduceLE, Int.reduceEq, Int.reduceToNat, Int.reduceMul, Int.reduceNeg, Go.Proofs.Try.f126, dgL, yad, zae, qac, zad, yab, qad, sst, qab, yaa, qaa, List.replicate_succ, List.drop_zero]
    | refine Sp2.f ?_ ?_
    | refine Spl.f ?_ ?_ <;> intro hb
    | refine yac rfl (fun b hb => ?_)
    | refine yal hcp ?_)
  refine qau (fun i env' H => i ≤ ybj bs.length ∧ Beg (h ++ [hE0, dgL v.l rs bs.length]) H ∧ ∃ v5, View (fun j => h.length + 2 ≤ j) H 5 v5 (endL i []) ∧ env' = (fun a : Nat → AV => [(0, .ref kd [0] 184), (2, .ref h.length [0] 36), (3, .ref (h.length + 1) [0] 184), (4, .int .u64 bs.length), (5, v5), (6, a 6), (7, a 7), (8, a 8), (9, a 9), (13, a 13), (26, a 26), (31, a 31), (49, a 49), (50, a 50), (51, a 51)]) (lk env')) (ybj bs.length) ?_ ?_
  · refine ⟨Nat.zero_le _, ?_, .win (h.length + 2) [] 5 0 1 1, View.mk' (l := [eB 0x80]) [] (Nat.le_refl _) (qa9 _ _ 2) rfl rfl, rfl⟩
    show Beg _ (h ++ [hE0, dgL v.l rs bs.length, (⟨5, [eB 0x80], .own⟩ : Entry)])
    rw [show h ++ [hE0, dgL v.l rs bs.length, (⟨5, [eB 0x80], .own⟩ : Entry)] = (h ++ [hE0, dgL v.l rs bs.length]) ++ [⟨5, [eB 0x80], .own⟩] by simp]
    exact Beg.rfl' _
  rintro i env H ⟨hi, hB, v5, hv, henv⟩
  refine ⟨hi, ?_⟩
  rw [henv]
  generalize lk env = a
  clear henv env
  have hln := hv.len (U := 30) zbl
  have hla := hv.lenAV
  rw [endL_len, List.length_nil, Nat.add_zero] at hln hla
  obtain ⟨x, hx⟩ : ∃ x, x = (bs.length + (i + 1)) % 64 := ⟨_, rfl⟩
  have c1 : IntKind.wrap .u64 ((i : Int) + 1) = (i : Int) + 1 := by rw [zak]; simp only [ybj] at hi; omega
  have c2 : (IntKind.wrap .u64 ((bs.length : Int) + ((i : Int) + 1))).tmod 64 = (x : Int) := by
    rw [zak, Int.tmod_eq_emod_of_nonneg (by omega)]; simp only [ybj] at hi; omega
  by_cases hlt : i < ybj bs.length
  · have c3 : ((x : Int) != 56) = true := by simp only [ybj] at hlt; simp; omega
    have hBl := hB.len
    simp only [List.length_append, List.length_cons, List.length_nil] at hBl
    have c4 : decide (i + 1 + 1 ≤ 4294967296) = true := by simp only [ybj] at hlt; simp; omega
    obtain ⟨v6, H6, hv6, hl6, hk6, hgo⟩ := yb4 (P := prog) (.int .u8 0) (hv.app [(⟨5, [.int .u8 0], .own⟩ : Entry)])
    rw [show (H ++ [(⟨5, [.int .u8 0], .own⟩ : Entry)]).length = H.length + 1 by simp] at hgo
    repeat' (first
    | simp (implicitDefEqProofs := false) only [push_cast, reduceIte, reduceCtorEq, Nat.reduceAdd, Nat.reduceSub, Nat.reduceEqDiff, Nat.reduceLT, Nat.reduceLeDiff, Nat.reduceBEq, Nat.reduceMul, Int.reduceLT, Int.reduceLE, Int.reduceEq, Int.reduceToNat, Int.reduceMul, Int.reduceNeg, Go.Proofs.Try.f126, hln, hla, c1, c2, c3, c4, yad, zae, qac, zad, yab, qad, sst, qab, yaa, qaa, List.replicate_succ, List.drop_zero]
    | refine Sp2.f ?_ ?_
    | refine Spl.f ?_ ?_ <;> intro hb
    | refine yac rfl (fun b hb => ?_)
    | refine hgo _ _ _ _ ?_)
    · simp only [ybj] at hlt; omega
    refine ⟨hlt, ?_, v6, ?_, rfl⟩
    · intro j e hj
      have := hB j e hj
      have hjl := zac hj
      simp only [List.length_append, List.length_cons, List.length_nil] at hjl
      exact hk6 j e (by rw [List.getElem?_append_left (zac this)]; exact this) (.inl (by omega))
    · have hz : endL (i + 1) [] = endL i [] ++ [.int .u8 0] := by
        rw [endL, endL, List.append_nil, List.append_nil, List.replicate_succ', ← List.cons_append, List.map_append]; rfl
      rw [hz]
      exact hv6.up fun j hj => hj.elim id fun hj => by have := hj.1; simp only [List.length_append] at this; omega
  · have c3 : ((x : Int) != 56) = false := by simp only [ybj] at hlt hi; simp; omega
    have hiz : i = ybj bs.length := by omega
    repeat' (first
    | simp (implicitDefEqProofs := false) only [push_cast, reduceIte, reduceCtorEq, Nat.reduceAdd, Nat.reduceSub, Nat.reduceEqDiff, Nat.reduceLT, Nat.reduceLeDiff, Nat.reduceBEq, Nat.reduceMul, Int.reduceLT, Int.reduceLE, Int.reduceEq, Int.reduceToNat, Int.reduceMul, Int.reduceNeg, Go.Proofs.Try.f126, hln, c1, c2, c3, yad, zae, qac, zad, yab, qad, sst, qab, yaa, qaa, List.replicate_succ, List.drop_zero]
    | refine Sp2.f ?_ ?_
    | refine Spl.f ?_ ?_ <;> intro hb
    | refine yac rfl (fun b hb => ?_))
    have hv0 := hv
    rw [hiz] at hv0
    clear hln hla c1 c2 c3 hx x hlt hi
    refine qau (fun j env' H => j ≤ 8 ∧ Beg (h ++ [hE0, dgL v.l rs bs.length]) H ∧ ∃ v5, View (fun j => h.length + 2 ≤ j) H 5 v5 (endL (ybj bs.length) ((len8 bs.length).take j)) ∧ env' = (fun a : Nat → AV => [(0, .ref kd [0] 184), (2, .ref h.length [0] 36), (3, .ref (h.length + 1) [0] 184), (4, .int .u64 bs.length), (5, v5), (6, .int .i64 (56 - 8 * (j : Int))), (7, a 7), (8, a 8), (9, a 9), (13, a 13), (26, a 26), (31, a 31), (49, a 49), (50, a 50), (51, a 51)]) (lk env')) 8 ?_ ?_
    · refine ⟨Nat.zero_le _, hB, v5, ?_, rfl⟩
      rw [List.take_zero]; exact hv0
    clear hv0 hv hiz v5 hB H a i
    rintro j env H ⟨hj, hB, v5, hv, henv⟩
    refine ⟨hj, ?_⟩
    rw [henv]
    generalize lk env = a
    clear henv env
    have hBl := hB.len
    simp only [List.length_append, List.length_cons, List.length_nil] at hBl
    have hln := hv.len (U := 30) zbl
    have hla := hv.lenAV
    have hZ : ybj bs.length < 64 := by simp only [ybj]; omega
    have hl8 : (len8 bs.length).length = 8 := rfl
    rw [endL_len, show ((len8 bs.length).take j).length = j by simp [hl8]; omega] at hln hla
    by_cases hj8 : j < 8
    · have c1 : decide ((0 : Int) ≤ 56 - 8 * (j : Int)) = true := by simp; omega
      obtain ⟨x2, hx2⟩ : ∃ x2, x2 = 56 - 8 * j := ⟨_, rfl⟩
      have c2 : IntKind.wrap .u64 (56 - 8 * (j : Int)) = (x2 : Int) := by rw [zak]; omega
      have c3 : ((x2 : Int) < 0) = False := by simp
      have c4 : min x2 IntKind.u64.bits = x2 := by show min x2 64 = x2; omega
      have c5 : IntKind.wrap .i64 (56 - 8 * (j : Int) - 8) = 56 - 8 * ((j : Int) + 1) := by rw [IntWalk.i64_in _ (by omega)]; omega
      obtain ⟨W, hW⟩ : ∃ W, W = IntKind.u64.wrap ((bs.length : Int) * 8) := ⟨_, rfl⟩
      have c6 : IntKind.wrap .u64 ((bs.length : Int) * 2 ^ (min 3 IntKind.u64.bits)) = W := by rw [hW, show (2 : Int) ^ (min 3 IntKind.u64.bits) = 8 from rfl]
      have hg8 : (len8 bs.length)[j]? = some (u8 (W.fdiv (2 ^ x2))) := by
        rw [hW, hx2]
        rcases (by omega : j = 0 ∨ j = 1 ∨ j = 2 ∨ j = 3 ∨ j = 4 ∨ j = 5 ∨ j = 6 ∨ j = 7) with rfl | rfl | rfl | rfl | rfl | rfl | rfl | rfl <;> rfl
      have c7 : decide (ybj bs.length + 1 + j + 1 ≤ 4294967296) = true := by simp; omega
      obtain ⟨v6, H6, hv6, hl6, hk6, hgo⟩ := yb4 (P := prog) (.int .u8 (IntKind.wrap .u8 (W.fdiv (2 ^ x2)))) (hv.app [(⟨5, [.int .u8 (IntKind.wrap .u8 (W.fdiv (2 ^ x2)))], .own⟩ : Entry)])
      rw [show (H ++ [(⟨5, [.int .u8 (IntKind.wrap .u8 (W.fdiv (2 ^ x2)))], .own⟩ : Entry)]).length = H.length + 1 by simp] at hgo
      repeat' (first
    | simp (implicitDefEqProofs := false) only [push_cast, reduceIte, reduceCtorEq, Nat.reduceAdd, Nat.reduceSub, Nat.reduceEqDiff, Nat.reduceLT, Nat.reduceLeDiff, Nat.reduceBEq, Nat.reduceMul, Int.reduceLT, Int.reduceLE, Int.reduceEq, Int.reduceToNat, Int.reduceMul, Int.reduceNeg, Go.Proofs.Try.f126, hln, hla, c1, c2, c3, c4, c5, c6, c7, Int.toNat_natCast, yad, zae, qac, zad, yab, qad, sst, qab, yaa, qaa, List.replicate_succ, List.drop_zero]
    | refine Sp2.f ?_ ?_
    | refine Spl.f ?_ ?_ <;> intro hb
    | refine yac rfl (fun b hb => ?_)
    | refine hgo _ _ _ _ ?_)
      · omega
      refine ⟨by omega, ?_, v6, ?_, rfl⟩
      · intro j e hj
        have := hB j e hj
        have hjl := zac hj
        simp only [List.length_append, List.length_cons, List.length_nil] at hjl
        exact hk6 j e (by rw [List.getElem?_append_left (zac this)]; exact this) (.inl (by omega))
      · have hz : endL (ybj bs.length) ((len8 bs.length).take (j + 1)) = endL (ybj bs.length) ((len8 bs.length).take j) ++ [.int .u8 (IntKind.wrap .u8 (W.fdiv (2 ^ x2)))] := by
          rw [endL, endL, List.take_add_one, hg8, Option.toList_some, ← List.append_assoc, List.map_append, u8_eq]; rfl
        rw [hz]
        exact hv6.up fun j hj => hj.elim id fun hj => by have := hj.1; simp only [List.length_append] at this; omega
    · have c1 : decide ((0 : Int) ≤ 56 - 8 * (j : Int)) = false := by simp; omega
      have hj9 : j = 8 := by omega
      rw [hj9, List.take_of_length_le (by rw [hl8]; exact Nat.le_refl _)] at hv
      repeat' (first
    | simp (implicitDefEqProofs := false) only [push_cast, reduceIte, reduceCtorEq, Nat.reduceAdd, Nat.reduceSub, Nat.reduceEqDiff, Nat.reduceLT, Nat.reduceLeDiff, Nat.reduceBEq, Nat.reduceMul, Int.reduceLT, Int.reduceLE, Int.reduceEq, Int.reduceToNat, Int.reduceMul, Int.reduceNeg, Go.Proofs.Try.f126, hln, c1, yad, zae, qac, zad, yab, qad, sst, qab, yaa, qaa, List.replicate_succ, List.drop_zero]
    | refine Sp2.f ?_ ?_
    | refine Spl.f ?_ ?_ <;> intro hb
    | refine yac rfl (fun b hb => ?_))
      clear hln hla hj9 hj hj8 c1
      obtain ⟨en, hen⟩ : ∃ en, en = (0x80 : UInt8) :: List.replicate (ybj bs.length) 0 ++ len8 bs.length := ⟨_, rfl⟩
      have henl : en.length = ybj bs.length + 9 := by rw [hen]; simp [hl8]
      have hpad : qdj bs = bs ++ en := by rw [qdj, hen]; simp
      rw [endL, ← hen] at hv
      have hwr : ∀ H2 : List Entry, H2[h.length + 1]? = some (dgL v.l rs bs.length) → ∃ rs' c', FSpec prog 125 [.ref (h.length + 1) [0] 184, eBs en] H2 fun r h' => r = .tup [] ∧ h' = H2.set (h.length + 1) (dgL (qbw v8 (qdj bs) ((qdj bs).length / 64)).l rs' c') := by
        intro H2 h2
        have hZe : (t + en.length) % 64 = 0 := by rw [henl, ht]; simp only [ybj]; omega
        have hn1 : (qdj bs).length = bs.length + en.length := by rw [hpad, List.length_append]
        have hqt : bs.length = 64 * q + t := by omega
        have hsp : qdj bs = bs.take (64 * q) ++ (bs.drop (64 * q) ++ en) := by rw [hpad, ← List.append_assoc, List.take_append_drop]
        have hbk : ∀ m, qbw v (bs.drop (64 * q) ++ en) m = qbw v8 (qdj bs) (q + m) := fun m => by
          rw [hsp, blks_app v8 (bs.take (64 * q)) _ q m (by simp; omega), blks_take v8 bs q (by omega), hvq]
        by_cases h0 : t = 0
        · have hd0 : bs.drop (64 * q) = [] := List.drop_of_length_le (by omega)
          have e := hbk (en.length / 64)
          rw [hd0, List.nil_append] at e
          have hw := c_Write0 v en rs bs.length h2 (by omega) hrl (by rw [Int.tmod_eq_emod_of_nonneg (by omega)]; omega)
          rw [e, show q + en.length / 64 = (qdj bs).length / 64 by omega] at hw
          exact ⟨_, _, hw⟩
        · obtain ⟨rs', hw⟩ := c_WriteF v en rs bs.length t ((t + en.length) / 64) h2 (by omega) hrl (by rw [Int.tmod_eq_emod_of_nonneg (by omega)]; omega) (by omega) (by omega) (by omega)
          rw [hrt, hbk, show q + (t + en.length) / 64 = (qdj bs).length / 64 by omega] at hw
          exact ⟨rs', _, hw⟩
      have hb1 : H[h.length + 1]? = some (dgL v.l rs bs.length) := hB _ _ (qa9 ..)
      have hb0 : H[h.length]? = some hE0 := hB _ _ (zar ..)
      have hbT : H.take h.length = h := (hB.take (by simp)).trans (by simp)
      generalize hLL : en.map eB = L at hv
      cases hv with
      | nil => rw [hen] at hLL; simp at hLL
      | @win k lo _ z hxk hHk =>
        have hkl := zac hHk
        have hne : L ++ z ≠ [] := by rw [← hLL, hen]; simp
        obtain ⟨rs', c', hw⟩ := hwr (H.set k (fzE ⟨5, L ++ z, .own⟩)) ((qac (by omega)).trans hb1)
        have hgv := FSpec.gives wfp (args := [.ref (h.length + 1) [0] 184, .win k [] 5 0 L.length lo]) hHk rfl hne (args' := [.ref (h.length + 1) [0] 184, eBs en]) (by
          simp only [List.map_cons, List.map_nil, Go.Abs.bz, bzWin, zad hkl, fzE, if_true, qaq, List.length_append, Nat.zero_add, List.drop_zero, List.take_left, eBs, hLL]
          rw [if_pos (by omega)]) hw
        have d0 : ((H.set k (fzE ⟨5, L ++ z, .own⟩)).set (h.length + 1) (dgL (qbw v8 (qdj bs) ((qdj bs).length / 64)).l rs' c'))[h.length]? = some hE0 := (qac (by omega)).trans ((qac (by omega)).trans hb0)
        have d1 : ((H.set k (fzE ⟨5, L ++ z, .own⟩)).set (h.length + 1) (dgL (qbw v8 (qdj bs) ((qdj bs).length / 64)).l rs' c'))[h.length + 1]? = some (dgL (qbw v8 (qdj bs) ((qdj bs).length / 64)).l rs' c') := zad (by rw [yab]; exact zac hb1)
        have dT : ((H.set k (fzE ⟨5, L ++ z, .own⟩)).set (h.length + 1) (dgL (qbw v8 (qdj bs) ((qdj bs).length / 64)).l rs' c')).take h.length = h := by rw [List.take_set_of_le (by omega), List.take_set_of_le (by omega)]; exact hbT
        have hsum : qdx bs = (qbw v8 (qdj bs) ((qdj bs).length / 64)).l.flatMap by4 := rfl
        generalize (H.set k (fzE ⟨5, L ++ z, .own⟩)).set (h.length + 1) (dgL (qbw v8 (qdj bs) ((qdj bs).length / 64)).l rs' c') = H3 at hgv d0 d1 dT
        generalize qbw v8 (qdj bs) ((qdj bs).length / 64) = V at hsum d1 hgv
        have l30 := zac d0
        have l31 := zac d1
        have hty : tyB prog (.win k [] 5 0 L.length lo) 30 = true := by rw [ty_win, zbl]; simp
        clear hwr hw hb0 hb1 hbT hBl hB hHk hkl
        repeat' (first
    | simp (implicitDefEqProofs := false) only [push_cast, reduceIte, reduceCtorEq, Nat.reduceAdd, Nat.reduceSub, Nat.reduceEqDiff, Nat.reduceLT, Nat.reduceLeDiff, Nat.reduceBEq, Nat.reduceMul, Int.reduceLT, Int.reduceLE, Int.reduceEq, Int.reduceToNat, Int.reduceMul, Int.reduceNeg, Go.Proofs.Try.f126, hty, d0, d1, l30, l31, dgL, yad, zae, qac, zad, yab, qad, sst, qab, yaa, qaa, List.replicate_succ, List.drop_zero]
    | refine Sp2.f ?_ ?_
    | refine Spl.f ?_ ?_ <;> intro hb
    | refine yac rfl (fun b hb => ?_)
    | refine yal hgv ?_)
        refine qax (fun j a => [(0, .ref kd [0] 184), (2, .ref h.length [0] 36), (3, .ref (h.length + 1) [0] 184), (4, .int .u64 bs.length), (5, a 5), (6, a 6), (7, .ref H3.length [0] 36), (8, a 8), (9, a 9), (13, a 13), (26, a 26), (31, a 31), (49, .agg 167 (V.l.map eN)), (50, .int .i64 j), (51, a 51)]) (fun j _ => H3 ++ [⟨36, [.agg 36 (oAt V j)], .own⟩]) (fun j => j ≤ 8) 8 (za3 ?_ ⟨[], rfl⟩ (Nat.zero_le _)) ?_
        · rfl
        clear a
        rintro j a g hj
        refine ⟨hj, ?_⟩
        by_cases hj8 : j < 8
        · rcases (by omega : j = 0 ∨ j = 1 ∨ j = 2 ∨ j = 3 ∨ j = 4 ∨ j = 5 ∨ j = 6 ∨ j = 7) with rfl | rfl | rfl | rfl | rfl | rfl | rfl | rfl
          all_goals
            simp only [oAt, V8.l, List.take_zero, List.take_succ_cons, List.flatMap_nil, List.flatMap_cons, by4A, Nat.reduceMul, Nat.reduceSub, List.map_cons, List.map_nil, Nat.zero_add, Nat.reduceAdd, cast0, cast1]
            repeat' (first
    | simp (implicitDefEqProofs := false) only [push_cast, reduceIte, reduceCtorEq, Nat.reduceAdd, Nat.reduceSub, Nat.reduceEqDiff, Nat.reduceLT, Nat.reduceLeDiff, Nat.reduceBEq, Nat.reduceMul, Int.reduceLT, Int.reduceLE, Int.reduceEq, Int.reduceToNat, Int.reduceMul, Int.reduceNeg, Go.Proofs.Try.f126, List.getD_cons_zero, List.getD_cons_succ, eN, l30, l31, cast32, Int.reduceAdd, wl0, wl1, wl2, wl3, wl4, wl5, wl6, wl7, wl8, wl9, wl10, wl11, wl12, wl13, wl14, wl15, wl16, wl17, wl18, wl19, wl20, wl21, wl22, wl23, wl24, wl25, wl26, wl27, wl28, wl29, wl30, wl31, yad, zae, qac, zad, yab, qad, sst, qab, yaa, qaa, List.replicate_succ, List.drop_zero]
    | refine Sp2.f ?_ ?_
    | refine Spl.f ?_ ?_ <;> intro hb
    | refine yac rfl (fun b hb => ?_))
            exact za3 rfl ⟨[], rfl⟩ (by omega)
        · have h8 : j = 8 := by omega
          have hc : decide ((j : Int) < 8) = false := by simp; omega
          repeat' (first
    | simp (implicitDefEqProofs := false) only [push_cast, reduceIte, reduceCtorEq, Nat.reduceAdd, Nat.reduceSub, Nat.reduceEqDiff, Nat.reduceLT, Nat.reduceLeDiff, Nat.reduceBEq, Nat.reduceMul, Int.reduceLT, Int.reduceLE, Int.reduceEq, Int.reduceToNat, Int.reduceMul, Int.reduceNeg, Go.Proofs.Try.f126, hc, d0, l30, hE0, qbq, zaj l30, yag l30, za4 l30, yaj l30, yad, zae, qac, zad, yab, qad, sst, qab, yaa, qaa, List.replicate_succ, List.drop_zero]
    | refine Sp2.f ?_ ?_
    | refine Spl.f ?_ ?_ <;> intro hb
    | refine yac rfl (fun b hb => ?_))
          refine ⟨?_, rfl, ?_⟩
          · rw [List.take_append_of_le_length (by simp; omega), List.take_set_of_le (Nat.le_refl _)]; exact dT
          · rw [h8, oAt_8, ← hsum]; exact ybr _ (zcg _)
theorem c_Sum (bs : List UInt8) (hl : bs.length ≤ 100000000) : Fn prog 77 [eBs bs] (eH (qdx bs)) := by
  refine run_77 rfl fun h => ?_
  obtain ⟨H, hH⟩ : ∃ H, H = h ++ [hE0] := ⟨_, rfl⟩
  have hHl : H.length = h.length + 1 := by rw [hH]; simp
  have hn := c_DNew H
  have hk : (H ++ [dgL v8.l (List.replicate 64 0) 0])[H.length]? = some (dgL v8.l (List.replicate 64 0) 0) := zar ..
  have hw := c_Write0 v8 bs (List.replicate 64 0) 0 hk (by omega) rfl rfl
  have hs0 : (H ++ [dgL v8.l (List.replicate 64 0) 0]).set H.length (dsE bs) = H ++ [dsE bs] := set_at0 ..
  have hc : IntKind.u64.wrap (0 + IntKind.u64.wrap (bs.length : Int)) = bs.length := by rw [zak, zak]; omega
  rw [hc] at hw
  change FSpec prog _ _ _ (fun r h' => r = .tup [] ∧ h' = (H ++ [dgL v8.l (List.replicate 64 0) 0]).set H.length (dsE bs)) at hw
  rw [hs0] at hw
  have hd := c_DSum bs hl (h := H ++ [dsE bs]) (kd := H.length) (zar ..)
  subst hH
  rw [hHl] at hn hw hd
  simp only [List.append_assoc, List.cons_append, List.nil_append] at hn hw hd
  repeat' (first
    | simp (implicitDefEqProofs := false) only [push_cast, reduceIte, reduceCtorEq, Nat.reduceAdd, Nat.reduceSub, Nat.reduceEqDiff, Nat.reduceLT, Nat.reduceLeDiff, Nat.reduceBEq, Nat.reduceMul, Int.reduceLT, Int.reduceLE, Int.reduceEq, Int.reduceToNat, Int.reduceMul, Int.reduceNeg, Go.Proofs.Try.f77, zas, qat, yat, eH_ty, ydv, hE0, yad, zae, qac, zad, yab, qad, sst, qab, yaa, qaa, List.replicate_succ, List.drop_zero]
    | refine Sp2.f ?_ ?_
    | refine Spl.f ?_ ?_ <;> intro hb
    | refine yac rfl (fun b hb => ?_)
    | refine yal hn ?_
    | refine yal hw ?_
    | refine yal hd ?_)
  exact ⟨ydv _, by rw [ybr _ (zcg _)]; exact qan _ (zcg _), ybr _ (zcg _)⟩
end Go.Abs
